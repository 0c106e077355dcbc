/- the plain law of a search over the powers of a field. -/
import Derived.Test.YtencdgmcpnbfcaaTopE
namespace Go.Proofs.Ytencdgmcpnbfcaa
open Go.RowKit
set_option maxHeartbeats 1000000

theorem pw_powI (l : List Int) (N i : Nat) (h : i < N) : pw (powersL l N) i = (powI l N).getD i 0 := by
  simp [pw, powersL, powI, List.getD_eq_getElem?_getD, List.getElem?_map, List.getElem?_range h]
theorem powersL_len (l : List Int) (N : Nat) : (powersL l N).length = N := by simp [powersL]
theorem powI_get (l : List Int) (N i : Nat) (h : i < N) : (powI l N).getD i 0 = (i : Int) * l.getD i 0 := by
  simp [powI, List.getD_eq_getElem?_getD, List.getElem?_map, List.getElem?_range h]

/-- Each peak of the field is a peak of the table. -/
theorem peak_in {l : List Int} {N i : Nat} (hi : i < N) (h : curPeakB (powersL l N) i = true) : peakB (powI l N) i = true := by
  have hc : CurPeak (powersL l N) i := by
    by_cases hc : CurPeak (powersL l N) i
    · exact hc
    · rw [curPeak_no hc] at h; cases h
  obtain ⟨_, h1, t, ht1, ht2, ht3, ht4⟩ := hc
  rw [powersL_len] at ht2 ht4
  rw [pw_powI _ _ _ hi] at *
  refine decide_eq_true ⟨?_, ?_⟩
  · rcases h1 with h1 | h1
    · exact .inl h1
    · right; rw [pw_powI _ _ _ (by omega)] at h1; omega
  · rw [powI_length]
    by_cases e : i + 1 = N
    · exact .inl e
    · right
      by_cases e2 : t = i
      · subst e2
        rcases ht4 with ht4 | ht4
        · omega
        · rw [pw_powI _ _ _ (by omega)] at ht4; omega
      · have := ht3 (i + 1) (by omega) (by omega)
        rw [pw_powI _ _ _ (by omega)] at this; omega
theorem span_of_max (ps : List PPeak) (i : Nat) (hmax : ∀ s, s < ps.length → pw ps s ≤ pw ps i) : ∀ (m t : Nat), ps.length - t = m → i ≤ t → t < ps.length → (∀ s, i ≤ s → s ≤ t → pw ps s = pw ps i) → ∃ t, Span ps i t
  | 0, t, h, _, h2, _ => by omega
  | m + 1, t, h, h1, h2, h3 => by
    by_cases e : t + 1 = ps.length
    · exact ⟨t, h1, h2, h3, .inl e⟩
    · by_cases e2 : pw ps (t + 1) < pw ps i
      · exact ⟨t, h1, h2, h3, .inr e2⟩
      · have := hmax (t + 1) (by omega)
        exact span_of_max ps i hmax m (t + 1) (by omega) (by omega) (by omega) (fun s a b => by
          by_cases e3 : s = t + 1
          · subst e3; omega
          · exact h3 s a (by omega))
/-- The first maximum, if it is above 0, is a peak of the field. -/
theorem top_peak {l : List Int} {N j : Nat} (hj : j < N) (hmax : ∀ i, i < N → (powI l N).getD i 0 ≤ (powI l N).getD j 0) (hfirst : ∀ i, i < j → (powI l N).getD i 0 < (powI l N).getD j 0) (hpos : 0 < (powI l N).getD j 0) : curPeakB (powersL l N) j = true := by
  refine curPeak_is ⟨?_, ?_, ?_⟩
  · rw [pw_powI _ _ _ hj]; omega
  · by_cases e : j = 0
    · exact .inl e
    · right; rw [pw_powI _ _ _ hj, pw_powI _ _ _ (by omega)]; exact hfirst _ (by omega)
  · exact span_of_max _ j (fun s hs => by rw [powersL_len] at hs; rw [pw_powI _ _ _ hj, pw_powI _ _ _ hs]; exact hmax s hs) _ j rfl (Nat.le_refl _) (by rw [powersL_len]; exact hj) (fun s a b => by rw [show s = j by omega])
theorem filter_one (p : Nat → Bool) (N j : Nat) (hj : j < N) (h1 : p j = true) (h2 : ∀ i, i < N → p i = true → i = j) : (List.range N).filter p = [j] := by
  induction N with
  | zero => omega
  | succ N ih =>
    rw [List.range_succ, List.filter_append]
    by_cases e : j = N
    · subst e
      have : (List.range j).filter p = [] := by
        rw [List.filter_eq_nil_iff]
        intro i hi hp
        have := h2 i (by have := List.mem_range.1 hi; omega) hp
        have := List.mem_range.1 hi
        omega
      simp [this, h1]
    · rw [ih (by omega) (fun i hi hp => h2 i (by omega) hp)]
      have : p N = false := by
        cases hp : p N
        · rfl
        · have := h2 N (by omega) hp; omega
      simp [this]
/-- One hill: it rises up to its top, and falls behind. -/
structure Hilly (P : List Int) (j : Nat) : Prop where
  lt : j < P.length
  up : ∀ i, i < j → P.getD i 0 < P.getD (i + 1) 0
  down : ∀ i, j ≤ i → i + 1 < P.length → P.getD (i + 1) 0 < P.getD i 0
theorem hilly {P : List Int} {j : Nat} (h : HillP P P.length) (hj : j < P.length) (hmax : ∀ i, i < P.length → P.getD i 0 ≤ P.getD j 0) : Hilly P j := by
  refine ⟨hj, fun i hi => ?_, fun i hi => ?_⟩
  · -- no fall before the top
    by_cases hc : P.getD i 0 < P.getD (i + 1) 0
    · exact hc
    · exfalso
      have hne := (h i (by omega)).1
      have hfall : P.getD (i + 1) 0 < P.getD i 0 := by omega
      have key : ∀ k, i + 1 + k ≤ j → P.getD (i + 1 + k) 0 < P.getD i 0 := by
        intro k
        induction k with
        | zero => intro _; exact hfall
        | succ k ih =>
          intro hk
          have a := ih (by omega)
          have b := (h (i + 1 + k) (by omega)).2 i (by omega) hfall
          rw [show i + 1 + (k + 1) = i + 1 + k + 1 by omega]
          omega
      have := key (j - (i + 1)) (by omega)
      rw [show i + 1 + (j - (i + 1)) = j by omega] at this
      have := hmax i (by omega)
      omega
  · induction i with
    | zero =>
      intro h2
      have := (h 0 h2).1
      have := hmax 1 h2
      rw [show j = 0 by omega] at this
      simp only [Nat.zero_add] at *
      omega
    | succ i ih =>
      intro h2
      have hne := (h (i + 1) h2).1
      by_cases e : j = i + 1
      · have := hmax (i + 1 + 1) h2
        rw [e] at this
        omega
      · have a := ih (by omega) (by omega)
        exact (h (i + 1) h2).2 i (by omega) a
/-- On a hill with j > 0 .. there is one peak. -/
theorem hill_one {l : List Int} {N j : Nat} (h : Hilly (powI l N) j) (hpos : 0 < (powI l N).getD j 0) : (List.range N).filter (curPeakB (powersL l N)) = [j] := by
  have hj := h.lt
  rw [powI_length] at hj
  have hmax : ∀ i, i < N → (powI l N).getD i 0 ≤ (powI l N).getD j 0 := by
    have up : ∀ k, k ≤ j → (powI l N).getD (j - k) 0 ≤ (powI l N).getD j 0 := by
      intro k
      induction k with
      | zero => intro _; exact Int.le_refl _
      | succ k ih =>
        intro hk
        have a := ih (by omega)
        have b := h.up (j - (k + 1)) (by omega)
        rw [show j - (k + 1) + 1 = j - k by omega] at b
        omega
    have down : ∀ k, j + k < N → (powI l N).getD (j + k) 0 ≤ (powI l N).getD j 0 := by
      intro k
      induction k with
      | zero => intro _; exact Int.le_refl _
      | succ k ih =>
        intro hk
        have a := ih (by omega)
        have b := h.down (j + k) (by omega) (by rw [powI_length]; omega)
        rw [show j + (k + 1) = j + k + 1 by omega]
        omega
    intro i hi
    by_cases e : i ≤ j
    · have := up (j - i) (by omega); rwa [show j - (j - i) = i by omega] at this
    · have := down (i - j) (by omega); rwa [show j + (i - j) = i by omega] at this
  refine filter_one _ N j hj (top_peak hj hmax (fun i hi => ?_) hpos) fun i hi hp => ?_
  · have a := h.up i hi
    have b := hmax (i + 1) (by omega)
    omega
  · have hc : CurPeak (powersL l N) i := by
      by_cases hc : CurPeak (powersL l N) i
      · exact hc
      · rw [curPeak_no hc] at hp; cases hp
    obtain ⟨_, h1, t, ht1, ht2, ht3, ht4⟩ := hc
    rw [powersL_len] at ht2 ht4
    rcases Nat.lt_trichotomy i j with hlt | he | hgt
    · exfalso
      have hu := h.up i hlt
      by_cases e : t = i
      · subst e
        rcases ht4 with ht4 | ht4
        · omega
        · rw [pw_powI _ _ _ hi, pw_powI _ _ _ (by omega)] at ht4; omega
      · have := ht3 (i + 1) (by omega) (by omega)
        rw [pw_powI _ _ _ hi, pw_powI _ _ _ (by omega)] at this; omega
    · exact he
    · exfalso
      have hd := h.down (i - 1) (by omega) (by rw [powI_length]; omega)
      rw [show i - 1 + 1 = i by omega] at hd
      rcases h1 with h1 | h1
      · omega
      · rw [pw_powI _ _ _ hi, pw_powI _ _ _ (by omega)] at h1; omega

/-! ### searches -/
theorem visStep_near (xs : List Int) (s : Nat × Int) (ok : StateOk xs s) : (visStep xs s).1 = s.1 ∨ ((visStep xs s).1 : Int) = (s.1 : Int) + s.2 := by
  unfold visStep
  split
  · exact .inl rfl
  · split
    · right; simp only; omega
    · right; simp only; omega
/-- Where a search turns round on the table, the power fell. -/
theorem no_turn (xs : List Int) (s : Nat × Int) (ok : StateOk xs s) (h1 : (visStep xs s).1 ≠ s.1) (h2 : (visStep xs (visStep xs s)).1 = s.1) : xs.getD (visStep xs s).1 0 < xs.getD s.1 0 := by
  obtain ⟨p, d⟩ := s
  obtain ⟨ok1, ok2⟩ := ok
  dsimp only at *
  by_cases hout : (p : Int) + d < 0 ∨ (xs.length : Int) ≤ (p : Int) + d
  · rw [visStep, if_pos hout] at h1; exact absurd rfl h1
  · by_cases hf : xs.getD ((p : Int) + d).toNat 0 < xs.getD p 0
    · have e : visStep xs (p, d) = (((p : Int) + d).toNat, -d) := by rw [visStep, if_neg hout, if_pos hf]
      rw [e]; exact hf
    · exfalso
      have e : visStep xs (p, d) = (((p : Int) + d).toNat, d) := by rw [visStep, if_neg hout, if_neg hf]
      rw [e] at h1 h2
      dsimp only at h1
      rcases visStep_near xs (((p : Int) + d).toNat, d) ⟨by dsimp only; omega, ok2⟩ with h | h
      · rw [h] at h2; dsimp only at h2; omega
      · rw [h2] at h; dsimp only at h; omega
/-- It goes towards the top, or stands on it. -/
def Towards (j : Nat) (s : Nat × Int) : Prop := (s.1 < j → s.2 = 1) ∧ (j < s.1 → s.2 = -1)
def distN (j p : Nat) : Nat := if p ≤ j then j - p else p - j
theorem step_towards {P : List Int} {j : Nat} (h : Hilly P j) (s : Nat × Int) (ok : StateOk P s) : Towards j (visStep P s) := by
  obtain ⟨p, d⟩ := s
  obtain ⟨ok1, ok2⟩ := ok
  have hj := h.lt
  dsimp only at ok1 ok2
  by_cases hout : (p : Int) + d < 0 ∨ (P.length : Int) ≤ (p : Int) + d
  · rw [visStep, if_pos hout]
    refine ⟨fun hlt => ?_, fun hlt => ?_⟩ <;> dsimp only at * <;> omega
  · rcases ok2 with rfl | rfl
    · have e : ((p : Int) + 1).toNat = p + 1 := by omega
      rw [visStep, if_neg hout, e]
      dsimp only
      by_cases hp : p < j
      · have := h.up p hp
        rw [if_neg (by omega)]
        exact ⟨fun _ => rfl, fun hlt => by first | omega | (dsimp only at hlt; omega)⟩
      · have := h.down p (by omega) (by first | omega | (dsimp only at hout; omega))
        rw [if_pos this]
        exact ⟨fun hlt => by first | omega | (dsimp only at hlt; omega), fun _ => rfl⟩
    · have e : ((p : Int) + -1).toNat = p - 1 := by omega
      have hp1 : 1 ≤ p := by first | omega | (dsimp only at hout; omega)
      rw [visStep, if_neg hout, e]
      dsimp only
      by_cases hp : p ≤ j
      · have := h.up (p - 1) (by omega)
        rw [show p - 1 + 1 = p by omega] at this
        rw [if_pos this]
        exact ⟨fun _ => rfl, fun hlt => by first | omega | (dsimp only at hlt; omega)⟩
      · have := h.down (p - 1) (by omega) (by omega)
        rw [show p - 1 + 1 = p by omega] at this
        rw [if_neg (by omega)]
        exact ⟨fun hlt => by first | omega | (dsimp only at hlt; omega), fun _ => rfl⟩
theorem step_dist {P : List Int} {j : Nat} (h : Hilly P j) (s : Nat × Int) (ok : StateOk P s) (ht : Towards j s) : distN j (visStep P s).1 ≤ max 1 (distN j s.1 - 1) := by
  obtain ⟨p, d⟩ := s
  obtain ⟨ok1, ok2⟩ := ok
  have hj := h.lt
  obtain ⟨t1, t2⟩ := ht
  dsimp only at *
  by_cases hout : (p : Int) + d < 0 ∨ (P.length : Int) ≤ (p : Int) + d
  · rw [visStep, if_pos hout]
    have : p = j := by omega
    subst this
    simp [distN]
  · have e1 : (visStep P (p, d)).1 = ((p : Int) + d).toNat := by
      rw [visStep, if_neg hout]; split <;> rfl
    rw [e1]
    unfold distN
    split <;> split <;> omega
/-- After enough steps a search stands on the top, or beside it. -/
theorem search_ends {P : List Int} {j : Nat} (h : Hilly P j) (s : Nat × Int) (ok : StateOk P s) : ∀ k, distN j (visAt P s (k + 1)).1 ≤ max 1 (P.length - k)
  | 0 => by
    have := (visAt_ok ok 1).1
    have := h.lt
    unfold distN
    simp only [Nat.zero_add]
    split <;> omega
  | k + 1 => by
    have a := search_ends h s ok k
    have b := step_dist h (visAt P s (k + 1)) (visAt_ok ok _) (step_towards h (visAt P s k) (visAt_ok ok k))
    show distN j (visStep P (visAt P s (k + 1))).1 ≤ _
    omega
theorem search_end {P : List Int} {j : Nat} (h : Hilly P j) (s : Nat × Int) (ok : StateOk P s) (k : Nat) (hk : P.length < k) : (j : Int) - 1 ≤ ((visAt P s k).1 : Int) ∧ ((visAt P s k).1 : Int) ≤ (j : Int) + 1 := by
  have := search_ends h s ok (k - 1)
  rw [show k - 1 + 1 = k by omega] at this
  unfold distN at this
  split at this <;> omega
theorem visL_get (xs : List Int) (s : Nat × Int) (k i : Nat) (h : i ≤ k) : (visL xs s k).getD i 0 = ((visAt xs s i).1 : Int) := by
  simp [visL, List.getD_eq_getElem?_getD, List.getElem?_map, List.getElem?_range (show i < k + 1 by omega)]
end Go.Proofs.Ytencdgmcpnbfcaa
