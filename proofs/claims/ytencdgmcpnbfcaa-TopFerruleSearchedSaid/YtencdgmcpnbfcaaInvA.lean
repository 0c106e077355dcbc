/- inverter: the check of a table, the highest index, the peaks, and whether a table is one hill. -/
import Derived.Test.YtencdgmcpnbfcaaCurveE
namespace Go.Proofs.Ytencdgmcpnbfcaa
open Go.RowKit
set_option maxHeartbeats 2000000
set_option maxRecDepth 100000

/-- a valid table of powers -/
structure VTab (xs : List Int) : Prop where
  one : 1 ≤ xs.length
  most : xs.length ≤ 64
  lo : ∀ i, i < xs.length → 0 ≤ xs.getD i 0
  hi : ∀ i, i < xs.length → xs.getD i 0 ≤ 1000000

theorem checkPower_inverter (n : Int) (w : World) :
    Calls Try.prog 48 #[.int .i64 n] w fun r w' => r = .returned (.int .i64 (withinL n 0 1000000)) ∧ w = w' := by
  go_enter Try.func48, Try.ntmps48
  go_wp2_with (go_at_call 34; refine (within_inverter _ _ _ _).mono ?_; rintro e w' ⟨rfl, rfl⟩)
  go_ret
  exact ⟨rfl, rfl⟩

theorem sized_inverter (n m : Int) (w : World) :
    Calls Try.prog 46 #[.int .i64 n, .int .i64 m] w fun r w' => r = .returned (.int .i64 (firstL [if n = 0 then 12 else 0, if m < n then 5 else 0])) ∧ Ext w w' := by
  by_cases h1 : n = 0 <;> by_cases h2 : m < n
  all_goals
    go_enter Try.func46, Try.ntmps46
    go_wp2_with (first | (go_at_call 33; refine (when_inverter _ _ _).mono ?_; rintro e w' ⟨rfl, rfl⟩) | (go_at_call 32; refine (first_inverter2 _ _ _ _).mono ?_; rintro e w1 ⟨rfl, hx1⟩))
    go_ret
    exact ⟨ret_int (by simp [h1, h2]), hx1⟩

theorem mapped_checkPower (xs : List Int) (a : Option Addr) (b off cap : Nat) (w : World) (hn : xs.length ≤ 1000000) (H : IntsAt w a b off xs) :
  Calls Try.prog 47 #[.slice a xs.length cap, .func (.func 48) #[] #[]] w fun r w' =>
    ∃ a' b' cap', r = .returned (.slice a' xs.length cap') ∧ IntsAt w' a' b' 0 (xs.map fun x => withinL x 0 1000000) ∧ Ext w w' := by
  go_enter Try.func47, Try.ntmps47
  go_wp2
  go_loopw [5, 10] (fun v i wr => ∃ k : Nat, k ≤ xs.length ∧ i = .int .i64 k ∧ wr.ownsRow w.heap.size 31 1 v k (((xs.take k).map fun x => withinL x 0 1000000).map (Value.int .i64)) ∧ Ext w wr) (fun _ i _ => xs.length - (intOf i).toNat)
  case atStart => exact ⟨0, Nat.zero_le _, rfl, owns_nil _ _ _ _, Ext.refl _⟩
  case round =>
    obtain ⟨k, hk, rfl, hown, hx⟩ := hrel
    have hidx := IntsAt.idx Try.underlying26 szInt H cap k
    by_cases hlt : k < xs.length
    · have h1 := (H.mono hx).cell k hlt
      have hsn := Lib.hid (take_map_snoc (fun x => withinL x 0 1000000) xs k 0 hlt)
      generalize xs.getD k 0 = c at *
      go_wp2_with fail
      refine (checkPower_inverter c _).mono ?_
      rintro e w2 ⟨rfl, rfl⟩
      go_wp2_with (at_builtin; refine append_new wr rfl _ _ 90 rfl w.heap.size 31 (.int .i64 0) 1 8 Try.underlying90 infoErr rfl (by decide) _ _ _ rfl hown 1 rfl rfl (by simp [Value.oneCell']) (by simp [maxLen]; omega) (by omega) hx.size ?_; intro v' w3 hown' hb3 hsz3)
      have hx5 : Ext w w3 := hb3 _ _ hx (Nat.le_refl _)
      exact ⟨⟨k + 1, by omega, by go_num, by rw [hsn.out]; simpa using hown', hx5⟩, by simp [intOf]; omega⟩
    · have hkk : k = xs.length := by omega
      obtain ⟨a', b', cap', hv, hi, _⟩ := owns_ints (xs := (xs.take k).map fun x => withinL x 0 1000000) (by simp; omega) hown
      subst hv
      rw [List.take_of_length_le (by omega)] at hi
      have hl : ((xs.take k).map fun x => withinL x 0 1000000).length = xs.length := by simp; omega
      go_wp2
      go_ret
      exact ⟨a', b', cap', by simpa using hl, hi, hx⟩

theorem VTab.checked {xs : List Int} (ok : VTab xs) : firstL (xs.map fun x => withinL x 0 1000000) = 0 := by
  refine firstL_all _ fun x hx => ?_
  obtain ⟨y, hy, rfl⟩ := List.mem_map.1 hx
  obtain ⟨i, hi, rfl⟩ := List.mem_iff_getElem.1 hy
  have h1 := ok.lo i hi
  have h2 := ok.hi i hi
  simp [List.getD_eq_getElem?_getD, hi] at h1 h2
  exact withinL_ok h1 h2

theorem checkTable_inverter (xs : List Int) (a : Option Addr) (b off cap : Nat) (w : World) (ok : VTab xs) (H : IntsAt w a b off xs) :
    Calls Try.prog 24 #[.slice a xs.length cap] w fun r w' => r = .returned (.int .i64 0) ∧ Ext w w' := by
  have h1 := ok.one
  have h2 := ok.most
  have h3 := Lib.hid ok.checked
  have h4 : firstL [if (xs.length : Int) = 0 then 12 else 0, if (64 : Int) < xs.length then 5 else 0] = 0 := by
    rw [if_neg (by omega), if_neg (by omega)]; rfl
  have H4 := Lib.hid h4
  clear h4
  go_enter Try.func24, Try.ntmps24
  go_wp2_with fail
  refine (sized_inverter _ _ _).mono ?_
  rw [H4.out]
  rintro e w1 ⟨rfl, hx1⟩
  go_wp2_with fail
  refine (mapped_checkPower xs a b off cap _ (by omega) (H.mono hx1)).mono ?_
  rintro e w2 ⟨a', b', cap', rfl, hi, hx2⟩
  go_wp2_with fail
  have hf := first_inverterN hi xs.length cap' (by simp) (by omega)
  rw [h3.out] at hf
  refine hf.mono ?_
  rintro e w3 ⟨rfl, rfl⟩
  go_wp2_with (go_at_call 32; refine (first_inverter2 _ _ _ _).mono ?_; rintro e w4 ⟨rfl, hx4⟩)
  go_ret
  exact ⟨rfl, (hx1.trans hx2).trans hx4⟩

theorem index_slices (xs : List Int) (m : Int) (j : Nat) (a : Option Addr) (b off cap : Nat) (w : World) (h1 : j < xs.length) (h2 : xs.length ≤ 1000000) (hj : xs.getD j 0 = m) (hb : ∀ i, i < j → xs.getD i 0 ≠ m) (H : IntsAt w a b off xs) :
    Calls Try.prog 25 #[.slice a xs.length cap, .int .i64 m] w fun r w' => r = .returned (.int .i64 j) ∧ w = w' := by
  have Hb := Lib.hid hb
  clear hb
  go_enter Try.func25, Try.ntmps25
  go_wp2
  go_loop [8] (fun i => ∃ k : Nat, k ≤ j ∧ i = .int .i64 k) (fun i => xs.length - (intOf i).toNat)
  case atStart => exact ⟨0, Nat.zero_le _, rfl⟩
  case round =>
    obtain ⟨k, hk, rfl⟩ := hrel
    have hidx := IntsAt.idx Try.underlying26 szInt H cap k
    have d1 := H.cell k (by omega)
    have hlt : k < xs.length := by omega
    by_cases hkj : k = j
    · subst hkj
      rw [hj] at d1
      clear hj
      go_wp2
      go_ret
      exact ⟨rfl, rfl⟩
    · have hne := Hb.out k (by omega)
      generalize xs.getD k 0 = x at *
      clear hj
      have hne' : ¬ m = x := fun e => hne e.symm
      go_wp2
      exact ⟨⟨k + 1, by omega, by go_num⟩, by simp [intOf]; omega⟩

theorem highest_inverter (xs : List Int) (j : Nat) (a : Option Addr) (b off cap : Nat) (w : World) (ok : VTab xs) (h1 : j < xs.length) (hj : xs.getD j 0 = maxL xs) (hb : ∀ i, i < j → xs.getD i 0 ≠ maxL xs) (H : IntsAt w a b off xs) :
    Calls Try.prog 9 #[.slice a xs.length cap] w fun r w' => r = .returned (.tuple #[.int .i64 j, .int .i64 0]) ∧ Ext w w' := by
  have ho := ok.one
  have h2 := ok.most
  have Hj := Lib.hid hj
  have Hb := Lib.hid hb
  clear hj hb
  go_enter Try.func9, Try.ntmps9
  go_wp2_with fail
  refine (checkTable_inverter xs a b off cap _ ok H).mono ?_
  rintro e w1 ⟨rfl, hx1⟩
  go_wp2_with fail
  refine (max_slices xs a b off cap _ ho (by omega) (H.mono hx1)).mono ?_
  rintro e w2 ⟨rfl, rfl⟩
  go_wp2_with fail
  refine (index_slices xs (maxL xs) j a b off cap _ h1 (by omega) Hj.out Hb.out (H.mono hx1)).mono ?_
  rintro e w2 ⟨rfl, rfl⟩
  go_wp2
  go_ret2
  exact ⟨rfl, hx1⟩
end Go.Proofs.Ytencdgmcpnbfcaa
