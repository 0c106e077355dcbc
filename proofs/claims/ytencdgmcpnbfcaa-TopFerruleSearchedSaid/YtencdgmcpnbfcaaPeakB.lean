/- curve: the powers of a curve, given one by one, and the highest of them. -/
import Derived.Test.YtencdgmcpnbfcaaPeakA
namespace Go.Proofs.Ytencdgmcpnbfcaa
open Go.RowKit Go.Shelf
set_option maxHeartbeats 2000000
set_option maxRecDepth 100000
attribute [local go_sem] Oper.semAt_some

def powersL (xs : List Int) (k : Nat) : List PPeak := (List.range k).map fun v : Nat => ((v : Int), (v : Int) * xs.getD v 0)
theorem powersL_next (xs : List Int) (k : Nat) : powersL xs (k + 1) = powersL xs k ++ [((k : Int), (k : Int) * xs.getD k 0)] := by
  rw [powersL, List.range_succ, List.map_append]; rfl
theorem powersL_length (xs : List Int) (k : Nat) : (powersL xs k).length = k := by simp [powersL]
theorem powersL_prefix (xs : List Int) {k n : Nat} (h : k ≤ n) : powersL xs k <+: powersL xs n := by
  refine ⟨(powersL xs n).drop k, ?_⟩
  conv => rhs; rw [← List.take_append_drop k (powersL xs n)]
  congr 1
  rw [powersL, powersL, ← List.map_take, List.take_range]
  congr 2
  omega

theorem powers1 (m : Nat) (hm : 1 ≤ m) (xs : List Int) (a : Option Addr) (b off cap Bl hi : Nat) (X : Nat → Prop) (w : World) (hlen : xs.length ≤ 10000) (hv : ∀ i, i < xs.length → 0 ≤ xs.getD i 0 ∧ xs.getD i 0 ≤ 100000) (hne : xs ≠ [])
    (bL : Boxed w Bl 26 (.slice a xs.length cap)) (H : IntsAt w a b off xs) (h4 : b < hi ∧ ¬ X b) (hhi : hi ≤ w.heap.size) :
    SeqRuns Fence.wide m Try.prog 52 #[.pointer (some ⟨Bl, 0, none⟩)] (fun p : PPeak => #[Value.agg #[.int .i64 p.1, .int .i64 p.2]]) none (KeepsBut X hi) (powersL xs xs.length) w := by
  intro l J W hW hJ hY h0
  have cl := (hW.cell (p := ⟨Bl, 0, none⟩) bL.lt).trans bL.cell
  have hi0 : IntsAt W a b off xs := H.mono hW
  refine callsIn_of_wp Try.func52 rfl trivial ?_ rfl
  simp only [Try.ntmps52, List.size_toArray, List.length_cons, List.length_nil, Nat.reduceAdd, Nat.reduceSub, Array.replicate_succ, Array.replicate_zero, List.push_toArray, List.append_toArray, List.nil_append, List.cons_append]
  gi_wp2
  gi_loopw [7] (fun i wr => ∃ j : Nat, j ≤ xs.length ∧ i = .int .i64 j ∧ J (powersL xs j) wr ∧ IntsAt wr a b off xs) (fun i _ => xs.length - (intOf i).toNat)
  case atStart => exact ⟨0, Nat.zero_le _, rfl, h0, hi0⟩
  case round =>
    obtain ⟨j, hj, rfl, hJr, hir⟩ := hrel
    by_cases hlt : j < xs.length
    · have hY2 := hY (powersL xs j) ((j : Int), (j : Int) * xs.getD j 0) wr hJr (by rw [← powersL_next]; exact powersL_prefix xs hlt)
      simp only [← powersL_next] at hY2
      have cj := hir.cell j hlt
      have ij := fun W => IntsAt.idx Try.underlying26 szInt hir cap j W hlt
      have hb := hv j hlt
      generalize xs.getD j 0 = x at *
      have hbp := mul_bound (j : Int) x 10000 100000 (by omega) (by omega) (by omega) (by omega) (by omega)
      have hwr := wrap_id ((j : Int) * x) (by omega) (by omega)
      obtain ⟨fn, tmps, assign, body, hy, hR⟩ := hY2
      gi_wp2
      refine hR.mono ?_
      rintro e W4 ⟨rfl, hJ4, hk4⟩
      gi_wp2
      go_roundw
      case rel => exact ⟨j + 1, by omega, by go_num, hJ4, hir.same hne (hk4 _ h4.1 h4.2)⟩
      case measure => simp [intOf]; omega
    · obtain rfl : j = xs.length := by omega
      gi_wp2
      go_end0
      exact ⟨⟨_, rfl⟩, hJr⟩

theorem powers_curve (a : Option Addr) (len cap : Nat) (w : World) :
    Calls Try.prog 29 #[.slice a len cap] w fun r w' => r = .returned (.func (.func 52) #[] #[.pointer (some ⟨w.heap.size, 0, none⟩)]) ∧ w' = w.alloc (.cells #[.slice a len cap] 26) := by
  go_enter Try.func29, Try.ntmps29
  go_wp2
  go_ret
  exact ⟨rfl, rfl⟩
end Go.Proofs.Ytencdgmcpnbfcaa
