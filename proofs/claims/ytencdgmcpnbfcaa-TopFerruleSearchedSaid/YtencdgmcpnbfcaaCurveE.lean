/- curve: the end of a field, and its curve. -/
import Derived.Test.YtencdgmcpnbfcaaCurveD
namespace Go.Proofs.Ytencdgmcpnbfcaa
open Go.RowKit
set_option maxHeartbeats 2000000
set_option maxRecDepth 100000

theorem mapped_end (f : List (List PCell)) (a : Option Addr) (b off cap : Nat) (w : World) (hn : f.length ≤ 1000000) (hm : ∀ cs ∈ f, 1 ≤ cs.length ∧ cs.length ≤ 8 ∧ ∀ c ∈ cs, CellOk c) (H : FieldAt w a b off f) :
  Calls Try.prog 54 #[.slice a f.length cap, .func (.func 55) #[] #[]] w fun r w' =>
    ∃ a' b' cap', r = .returned (.slice a' f.length cap') ∧ IntsAt w' a' b' 0 (f.map fun cs => chainVoltL cs 0) ∧ Ext w w' := by
  go_enter Try.func54, Try.ntmps54
  go_wp2
  go_loopw [5, 10] (fun v i wr => ∃ k : Nat, k ≤ f.length ∧ i = .int .i64 k ∧ wr.ownsRow w.heap.size 3 1 v k (((f.take k).map fun cs => chainVoltL cs 0).map (Value.int .i64)) ∧ Ext w wr) (fun _ i _ => f.length - (intOf i).toNat)
  case atStart => exact ⟨0, Nat.zero_le _, rfl, owns_nil _ _ _ _, Ext.refl _⟩
  case round =>
    obtain ⟨k, hk, rfl, hown, hx⟩ := hrel
    have hidx := FieldAt.idx Try.underlying29 szChain H cap k
    by_cases hlt : k < f.length
    · obtain ⟨ta, tb, toff, tcap, h1, h2⟩ := (H.mono hx).cell k hlt
      have hmem := hm (f.getD k []) (by simp [List.getD_eq_getElem?_getD, hlt])
      have hsn := Lib.hid (take_map_snoc (fun cs => chainVoltL cs 0) f k [] hlt)
      generalize f.getD k [] = c at *
      go_wp2_with fail
      refine (end1_curve c ta tb toff tcap _ hmem.2.1 hmem.2.2 h1).mono ?_
      rintro e w2 ⟨rfl, hx2⟩
      have hx4 := hx.trans hx2
      have hown2 := owns_ext hown hx2
      go_wp2_with (at_builtin; refine append_new w2 rfl _ _ 26 rfl w.heap.size 3 (.int .i64 0) 1 8 Try.underlying26 infoInt rfl (by decide) _ _ _ rfl hown2 1 rfl rfl (by simp [Value.oneCell']) (by simp [maxLen]; omega) (by omega) hx4.size ?_; intro v' w3 hown' hb3 hsz3)
      have hx5 : Ext w w3 := hb3 _ _ hx4 (Nat.le_refl _)
      exact ⟨⟨k + 1, by omega, by go_num, by rw [hsn.out]; simpa using hown', hx5⟩, by simp [intOf]; omega⟩
    · have hkk : k = f.length := by omega
      obtain ⟨a', b', cap', hv, hi, _⟩ := owns_ints (xs := (f.take k).map fun cs => chainVoltL cs 0) (by simp; omega) hown
      subst hv
      rw [List.take_of_length_le (by omega)] at hi
      have hl : ((f.take k).map fun cs => chainVoltL cs 0).length = f.length := by simp; omega
      go_wp2
      go_ret
      exact ⟨a', b', cap', by simpa using hl, hi, hx⟩


theorem max_slices (xs : List Int) (a : Option Addr) (b off cap : Nat) (w : World) (h1 : 1 ≤ xs.length) (h2 : xs.length ≤ 1000000) (H : IntsAt w a b off xs) :
    Calls Try.prog 26 #[.slice a xs.length cap] w fun r w' => r = .returned (.int .i64 (maxL xs)) ∧ w = w' := by
  have i0 := fun W => IntsAt.idx Try.underlying26 szInt H cap 0 W (by omega)
  simp only [Int.cast_ofNat_Int, Nat.add_zero] at i0
  have d0 := H.cell 0 (by omega)
  rw [Nat.add_zero] at d0
  have hm : maxL xs = maxGo (xs.getD 0 0) (xs.drop 1) := rfl
  have Hm := Lib.hid hm
  clear hm
  generalize xs.getD 0 0 = x0 at *
  have hl1 : ¬ ((xs.length : Int) < 1) := by omega
  go_enter Try.func26, Try.ntmps26
  go_wp2
  go_loop [3, 4] (fun m i => ∃ (k : Nat) (z : Int), k + 1 ≤ xs.length ∧ i = .int .i64 ((k : Int) + 1) ∧ m = .int .i64 z ∧ maxL xs = maxGo z (xs.drop (k + 1))) (fun _ i => xs.length - (intOf i).toNat)
  case atStart => exact ⟨0, x0, by omega, rfl, rfl, Hm.out⟩
  case round =>
    obtain ⟨k, z, hk, rfl, rfl, hf⟩ := hrel
    have Hf := Lib.hid hf
    clear hf
    by_cases hlt : k + 1 < xs.length
    · have i1 := fun W => IntsAt.idx Try.underlying26 szInt H cap (k + 1) W hlt
      simp only [Int.natCast_add, Int.cast_ofNat_Int] at i1
      have d1 := H.cell (k + 1) hlt
      have hs := Lib.hid (maxGo_drop z xs (k + 1) hlt)
      generalize xs.getD (k + 1) 0 = x at *
      have hlt' : (k : Int) + 1 < (xs.length : Int) := by omega
      by_cases hzx : z < x
      all_goals
        go_wp2
        exact ⟨⟨k + 1, _, by omega, by simp, rfl, by rw [Hf.out, hs.out]; congr 1; omega⟩, by simp [intOf]; omega⟩
    · have hge : ¬ ((k : Int) + 1 < (xs.length : Int)) := by omega
      go_wp2
      go_ret
      exact ⟨ret_int (by rw [Hf.out, List.drop_of_length_le (by omega)]; rfl), rfl⟩

theorem end_curve (f : List (List PCell)) (a : Option Addr) (b off cap : Nat) (w : World) (ok : FieldOk' f) (H : FieldAt w a b off f) :
    Calls Try.prog 31 #[.slice a f.length cap] w fun r w' => r = .returned (.int .i64 (endL f)) ∧ Ext w w' := by
  have h1 := ok.1
  have h2 := ok.2.1
  have h3 := ok.2.2
  go_enter Try.func31, Try.ntmps31
  go_wp2_with fail
  refine (mapped_end f a b off cap _ (by omega) h3 H).mono ?_
  rintro e w2 ⟨a', b', cap', rfl, hi, hx2⟩
  go_wp2_with fail
  have hl : f.length = (f.map fun cs => chainVoltL cs 0).length := by simp
  have hmax := max_slices (f.map fun cs => chainVoltL cs 0) a' b' 0 cap' w2 (by simp; omega) (by simp; omega) hi
  rw [← hl] at hmax
  clear hl
  refine hmax.mono ?_
  rintro e w3 ⟨rfl, rfl⟩
  go_wp2
  go_ret
  exact ⟨rfl, hx2⟩

theorem checkFieldL_ok {f : List (List PCell)} (ok : FieldOk' f) : checkFieldL f = 0 := checkField_ok ok
/-- The curve of a valid field. -/
theorem Curve_curve (f : List (List PCell)) (a : Option Addr) (b off cap : Nat) (w : World) (ok : FieldOk' f) (H : FieldAt w a b off f) :
    Calls Try.prog 21 #[.slice a f.length cap] w fun r w' => ∃ (g n : Nat), (n : Int) = endL f ∧ r = .returned (.tuple #[.slice (some ⟨g, 0, none⟩) (n + 1) (n + 1), .int .i64 0]) ∧ IntsAt w' (some ⟨g, 0, none⟩) g 0 (curveL f (n + 1)) ∧ Ext w w' := by
  have h0 := Lib.hid (checkFieldL_ok ok)
  have hfo : FieldOk f := ⟨by have := ok.2.1; omega, fun cs hcs => ⟨by have := (ok.2.2 cs hcs).2.1; omega, fun c hc => by have := ((ok.2.2 cs hcs).2.2 c hc).tab.eight; omega⟩⟩
  have hb := endL_bound ok
  obtain ⟨n, hn⟩ := Int.eq_ofNat_of_zero_le hb.1
  have hn2 : n ≤ 1000 := by omega
  have Hn := Lib.hid hn
  clear hb hn
  go_enter Try.func21, Try.ntmps21
  go_wp2_with fail
  refine (checkField_curve f a b off cap _ hfo H).mono ?_
  rw [h0.out]
  rintro e w1 ⟨rfl, hx1⟩
  go_wp2_with fail
  refine (end_curve f a b off cap _ ok (H.mono hx1)).mono ?_
  rw [Hn.out]
  rintro e w2 ⟨rfl, hx2⟩
  go_wp2_with fail
  refine (curve_curve f n a b off cap _ ok.2.1 (fun cs hcs => (ok.2.2 cs hcs).2) hn2 (H.mono (hx1.trans hx2))).mono ?_
  rintro e w3 ⟨g, rfl, hi, hx3⟩
  go_wp2
  go_ret2
  exact ⟨g, n, Hn.out.symm, rfl, hi, (hx1.trans hx2).trans hx3⟩
end Go.Proofs.Ytencdgmcpnbfcaa
