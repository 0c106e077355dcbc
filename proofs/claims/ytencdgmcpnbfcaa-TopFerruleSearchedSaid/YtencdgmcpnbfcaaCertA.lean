/- curve: certificates, plainly. -/
import Derived.Test.YtencdgmcpnbfcaaPeakF
namespace Go.Proofs.Ytencdgmcpnbfcaa
open Go.RowKit

/-- The cuts so far. -/
structure CertGo (l : List Int) (most : Int) (cs : List Nat) : Prop where
  ne : 1 ≤ cs.length
  zero : cs.getD 0 0 = 0
  lt : ∀ i, i < cs.length → cs.getD i 0 < l.length
  inc : ∀ i, i + 1 < cs.length → cs.getD i 0 < cs.getD (i + 1) 0
  prov : ∀ i, i + 1 < cs.length → l.getD (cs.getD i 0) 0 * ((cs.getD (i + 1) 0 : Int) - 1) ≤ most
theorem CertGo.ge {l : List Int} {most : Int} {cs : List Nat} (h : CertGo l most cs) : ∀ i, i < cs.length → i ≤ cs.getD i 0
  | 0, _ => Nat.zero_le _
  | i + 1, hi => by have := h.ge i (by omega); have := h.inc i hi; omega
theorem CertGo.short {l : List Int} {most : Int} {cs : List Nat} (h : CertGo l most cs) : cs.length ≤ l.length := by
  have h1 := h.ne
  have := h.ge (cs.length - 1) (by omega)
  have := h.lt (cs.length - 1) (by omega)
  omega
theorem CertGo.start {l : List Int} {most : Int} (h : 1 ≤ l.length) : CertGo l most [0] :=
  ⟨by simp, by simp, fun i hi => by simp at hi; subst hi; simp; omega, fun i hi => by simp at hi, fun i hi => by simp at hi⟩
theorem getD_snoc_lt {xs : List Nat} {x i : Nat} (h : i < xs.length) : (xs ++ [x]).getD i 0 = xs.getD i 0 := by
  simp [List.getD_eq_getElem?_getD, List.getElem?_append_left h]
theorem getD_snoc_at {xs : List Nat} {x : Nat} : (xs ++ [x]).getD xs.length 0 = x := by
  simp [List.getD_eq_getElem?_getD]
theorem CertGo.snoc {l : List Int} {most : Int} {cs : List Nat} {c : Nat} (h : CertGo l most cs) (h1 : c < l.length) (h2 : cs.getD (cs.length - 1) 0 < c) (h3 : l.getD (cs.getD (cs.length - 1) 0) 0 * ((c : Int) - 1) ≤ most) : CertGo l most (cs ++ [c]) := by
  have hn := h.ne
  refine ⟨by simp, by rw [getD_snoc_lt (by omega)]; exact h.zero, fun i hi => ?_, fun i hi => ?_, fun i hi => ?_⟩
  · simp at hi
    by_cases e : i = cs.length
    · subst e; rw [getD_snoc_at]; exact h1
    · rw [getD_snoc_lt (by omega)]; exact h.lt i (by omega)
  · simp at hi
    by_cases e : i + 1 = cs.length
    · rw [e, getD_snoc_at, getD_snoc_lt (by omega), show i = cs.length - 1 by omega]; exact h2
    · rw [getD_snoc_lt (by omega), getD_snoc_lt (by omega)]; exact h.inc i (by omega)
  · simp at hi
    by_cases e : i + 1 = cs.length
    · rw [e, getD_snoc_at, getD_snoc_lt (by omega), show i = cs.length - 1 by omega]; exact h3
    · rw [getD_snoc_lt (by omega), getD_snoc_lt (by omega)]; exact h.prov i (by omega)
/-- The next cut. -/
theorem next_cut {cur most N last : Int} (h0 : 0 ≤ most) (hN : 1 ≤ N) (hc : 0 ≤ cur) (h1 : ¬ cur * (N - 1) ≤ most) (h2 : cur * last ≤ most) (hl : 0 ≤ last) :
    0 < cur ∧ 0 ≤ most / cur ∧ last < most / cur + 1 ∧ most / cur + 1 < N ∧ cur * (most / cur + 1 - 1) ≤ most := by
  have hpos : 0 < cur := by
    rcases Int.lt_or_le 0 cur with h | h
    · exact h
    · have : cur = 0 := by omega
      subst this; simp at h1; omega
  have hq : 0 ≤ most / cur := Int.ediv_nonneg h0 (by omega)
  refine ⟨hpos, hq, ?_, ?_, ?_⟩
  · have : last ≤ most / cur := (Int.le_ediv_iff_mul_le hpos).2 (by rw [Int.mul_comm]; exact h2)
    omega
  · have : most / cur < N - 1 := (Int.ediv_lt_iff_lt_mul hpos).2 (by rw [Int.mul_comm]; omega)
    omega
  · rw [Int.add_sub_cancel]; exact Int.mul_ediv_self_le (by omega)
end Go.Proofs.Ytencdgmcpnbfcaa
