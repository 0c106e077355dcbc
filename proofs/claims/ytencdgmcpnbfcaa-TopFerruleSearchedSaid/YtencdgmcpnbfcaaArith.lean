/- Plain arithmetic: Go's quotient and the floor. -/
namespace Go.Proofs.Ytencdgmcpnbfcaa
theorem ediv_iff (n d q : Int) (hd : 0 < d) (h1 : q * d ≤ n) (h2 : n < (q + 1) * d) : n / d = q := by
  have a := (Int.le_ediv_iff_mul_le hd).2 h1
  have b := (Int.ediv_lt_iff_lt_mul hd).2 h2
  omega
theorem tdiv_facts (n d : Int) (hd : 0 < d) : (0 ≤ n → n.tdiv d = n / d) ∧ (n ≤ 0 → n.tdiv d = -((-n) / d)) := by
  refine ⟨fun h => Int.tdiv_eq_ediv_of_nonneg h, fun h => ?_⟩
  have := Int.tdiv_eq_ediv_of_nonneg (a := -n) (b := d) (by omega)
  rw [Int.neg_tdiv] at this
  omega
theorem tdiv_floor (n d : Int) (hd : 0 < d) : (if n < n.tdiv d * d then n.tdiv d - 1 else n.tdiv d) = n / d := by
  rcases Int.le_total 0 n with hn | hn
  · rw [(tdiv_facts n d hd).1 hn]
    have := Int.ediv_mul_le n (Int.ne_of_gt hd)
    rw [if_neg (by omega)]
  · rw [(tdiv_facts n d hd).2 hn]
    have a := Int.ediv_mul_le (-n) (Int.ne_of_gt hd)
    have b := Int.lt_ediv_add_one_mul_self (-n) hd
    have e1 : -(-n / d) * d = -(-n / d * d) := by rw [Int.neg_mul]
    have e2 : (-n / d + 1) * d = -n / d * d + d := by rw [Int.add_mul, Int.one_mul]
    have e3 : (-(-n / d) - 1) * d = -(-n / d * d) - d := by rw [Int.sub_mul, Int.neg_mul, Int.one_mul]
    have e4 : (-(-n / d) + 1) * d = -(-n / d * d) + d := by rw [Int.add_mul, Int.neg_mul, Int.one_mul]
    by_cases h : n < -(-n / d) * d
    · rw [if_pos h]
      symm; apply ediv_iff _ _ _ hd
      · omega
      · have : (-(-n / d) - 1 + 1) = -(-n / d) := by omega
        rw [this]; omega
    · rw [if_neg h]
      symm; apply ediv_iff _ _ _ hd
      · omega
      · omega
theorem tdiv_bound (n d : Int) (hd : 0 < d) (B : Int) (h1 : -B ≤ n) (h2 : n ≤ B) : -B ≤ n.tdiv d ∧ n.tdiv d ≤ B ∧ -B ≤ n.tdiv d * d ∧ n.tdiv d * d ≤ B := by
  have key : ∀ m : Int, 0 ≤ m → 0 ≤ m / d ∧ m / d ≤ m ∧ 0 ≤ m / d * d ∧ m / d * d ≤ m := fun m hm => by
    have a := Int.ediv_mul_le m (Int.ne_of_gt hd)
    have b := Int.ediv_nonneg hm (Int.le_of_lt hd)
    have c := Int.ediv_le_self d hm
    exact ⟨b, c, Int.mul_nonneg b (Int.le_of_lt hd), a⟩
  rcases Int.le_total 0 n with hn | hn
  · rw [(tdiv_facts n d hd).1 hn]
    have := key n hn
    omega
  · rw [(tdiv_facts n d hd).2 hn]
    have := key (-n) (by omega)
    rw [Int.neg_mul]
    omega
theorem mul_bound (a b A B : Int) (ha1 : -A ≤ a) (ha2 : a ≤ A) (hb1 : -B ≤ b) (hb2 : b ≤ B) (hA : 0 ≤ A) : -(A * B) ≤ a * b ∧ a * b ≤ A * B := by
  have hB : 0 ≤ B := by omega
  have h : (a * b).natAbs ≤ (A * B).natAbs := by
    rw [Int.natAbs_mul, Int.natAbs_mul]
    exact Nat.mul_le_mul (by omega) (by omega)
  have hAB : 0 ≤ A * B := Int.mul_nonneg hA hB
  omega
end Go.Proofs.Ytencdgmcpnbfcaa
