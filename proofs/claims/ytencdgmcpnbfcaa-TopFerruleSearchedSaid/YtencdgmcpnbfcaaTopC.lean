/- the top package: the powers of a field; whether a field is small. -/
import Derived.Test.YtencdgmcpnbfcaaTopB
namespace Go.Proofs.Ytencdgmcpnbfcaa
open Go.RowKit
set_option maxHeartbeats 2000000
set_option maxRecDepth 100000

/-- The powers of a curve, as integers. -/
def powI (l : List Int) (k : Nat) : List Int := (List.range k).map fun v : Nat => (v : Int) * l.getD v 0
theorem powI_length (l : List Int) (k : Nat) : (powI l k).length = k := by simp [powI]
theorem powI_snoc (l : List Int) (k : Nat) : (powI l (k + 1)).map (Value.int .i64) = (powI l k).map (Value.int .i64) ++ [.int .i64 ((k : Int) * l.getD k 0)] := by simp [powI, List.range_succ]
theorem curveL_small (f : List (List PCell)) (hf : f.length ≤ 6) (n i : Nat) (hi : i < n) : 0 ≤ (curveL f n).getD i 0 ∧ (curveL f n).getD i 0 ≤ 1200 := by
  have := fieldCur_bound f (i : Int)
  have e : (curveL f n).getD i 0 = fieldCur f i := by simp [curveL, List.getD_eq_getElem?_getD, List.getElem?_map, List.getElem?_range hi]
  rw [e]; omega
/-- It returns a slice of just these integers, and true. -/
def PowOut (xs : List Int) (r : Ending) (w' : World) : Prop := ∃ a b cap, r = .returned (.tuple #[.slice a xs.length cap, .bool true]) ∧ IntsAt w' a b 0 xs

theorem powers_top (f : List (List PCell)) (n : Nat) (hn : (n : Int) = endL f) (a : Option Addr) (b off cap : Nat) (w : World) (ok : FieldOk' f) (H : FieldAt w a b off f) :
    Calls Try.prog 6 #[.slice a f.length cap] w fun r w' => PowOut (powI (curveL f (n + 1)) (n + 1)) r w' ∧ Ext w w' := by
  have hb := endL_bound ok
  have hl6 := ok.2.1
  have Hn := Lib.hid hn
  have hn2 : n ≤ 800 := by omega
  clear hn hb
  go_enter Try.func6, Try.ntmps6
  go_wp2_with fail
  refine (Curve_curve f a b off cap _ ok H).mono ?_
  rintro e w1 ⟨g, n', hn', rfl, hi, hx1⟩
  obtain rfl : n' = n := by have := Hn.out; omega
  clear hn'
  have hvals := curveL_small f hl6 (n' + 1)
  have hll := curveL_length f (n' + 1)
  generalize hgl : curveL f (n' + 1) = l at *
  have Hl := Lib.hid hgl
  clear hgl
  have t1 : decide ((n' : Int) + 1 < 1) = false := by simp; omega
  have t2 : decide ((801 : Int) < (n' : Int) + 1) = false := by simp; omega
  go_wp2_with fail
  go_loopw [6, 28] (fun v i wr => ∃ k : Nat, k ≤ n' + 1 ∧ i = .int .i64 k ∧ wr.ownsRow w1.heap.size 3 1 v k ((powI l k).map (Value.int .i64)) ∧ Ext w1 wr) (fun _ i _ => n' + 1 - (intOf i).toNat)
  case atStart => exact ⟨0, Nat.zero_le _, rfl, owns_nil _ _ _ _, Ext.refl _⟩
  case round =>
    obtain ⟨k, hk, rfl, hown, hx⟩ := hrel
    by_cases hlt : k < n' + 1
    · have cc := (hi.mono hx).cell k (by omega)
      have ic := fun W => IntsAt.idx Try.underlying26 szInt (hi.mono hx) (n' + 1) k W (by omega)
      rw [hll] at ic
      have hv := hvals k hlt
      have hsn := Lib.hid (powI_snoc l k)
      simp only [Nat.zero_add] at cc ic
      generalize l.getD k 0 = p at *
      have u1 : decide (p < 0) = false := by simp; omega
      have u2 : decide ((1200 : Int) < p) = false := by simp; omega
      have hnb := mul_bound (k : Int) p 1000 100000 (by omega) (by omega) (by omega) (by omega) (by omega)
      have hwr := wrap_id ((k : Int) * p) (by omega) (by omega)
      go_wp2_with (at_builtin; refine append_new wr rfl _ _ 26 rfl w1.heap.size 3 (.int .i64 0) 1 8 Try.underlying26 infoInt rfl (by decide) _ _ _ rfl hown 1 rfl rfl (by simp [Value.oneCell']) (by simp [maxLen]; omega) (by omega) hx.size ?_; intro v' w3 hown' hb3 hsz3)
      exact ⟨⟨k + 1, hlt, by go_num, by rw [hsn.out]; exact hown', hb3 _ _ hx (Nat.le_refl _)⟩, by simp [intOf]; omega⟩
    · obtain rfl : k = n' + 1 := by omega
      obtain ⟨a2, b2, cap2, hv, hi2, _⟩ := owns_ints (powI_length l (n' + 1)).symm hown
      subst hv
      go_wp2
      go_ret2
      rw [Hl.out]
      exact ⟨⟨a2, b2, cap2, rfl, hi2⟩, hx1.trans hx⟩
end Go.Proofs.Ytencdgmcpnbfcaa
