/- curve: the checks of cells, chains and fields. -/
import Derived.Test.YtencdgmcpnbfcaaCurveA
import Derived.Test.YtencdgmcpnbfcaaBase2
namespace Go.Proofs.Ytencdgmcpnbfcaa
open Go.RowKit
set_option maxHeartbeats 1000000
set_option maxRecDepth 100000

theorem counted_curve (n m : Int) (w : World) :
    Calls Try.prog 38 #[.int .i64 n, .int .i64 m] w fun r w' => r = .returned (.int .i64 (firstL [if n = 0 then 12 else 0, if m < n then 5 else 0])) ∧ Ext w w' := by
  by_cases h1 : n = 0 <;> by_cases h2 : m < n
  all_goals
    go_enter Try.func38, Try.ntmps38
    go_wp2_with (first | (go_at_call 39; refine (when_curve _ _ _).mono ?_; rintro e w' ⟨rfl, rfl⟩) | (go_at_call 36; refine (first_curve2 _ _ _ _).mono ?_; rintro e w1 ⟨rfl, hx1⟩))
    go_ret
    exact ⟨ret_int (by simp [h1, h2]), hx1⟩

theorem checkCell_curve (c : PCell) (a : Option Addr) (b off cap : Nat) (w : World) (hm : c.tab.length ≤ 1000000000) (H : PtsAt w a b off c.tab) :
  Calls Try.prog 65 #[.agg #[.slice a c.tab.length cap, .int .i64 c.light, .int .i64 c.drop]] w fun r w' =>
    r = .returned (.int .i64 (checkCellL c)) ∧ Ext w w' := by
  go_enter Try.func65, Try.ntmps65
  go_wp2
  have f1 := fun x : XW (w.alloc (.cells #[.slice a c.tab.length cap, .int .i64 c.light, .int .i64 c.drop] 53)) => XW.cell_new (o := 0) rfl x
  have f2 := fun x : XW (w.alloc (.cells #[.slice a c.tab.length cap, .int .i64 c.light, .int .i64 c.drop] 53)) => XW.cell_new (o := 1) rfl x
  have f3 := fun x : XW (w.alloc (.cells #[.slice a c.tab.length cap, .int .i64 c.light, .int .i64 c.drop] 53)) => XW.cell_new (o := 2) rfl x
  refine wp_region_tail 9 (XC (w.alloc (.cells #[.slice a c.tab.length cap, .int .i64 c.light, .int .i64 c.drop] 53))) (by kernel_rfl) (by kernel_rfl) ⟨⟨_, (Ext.refl _).drew⟩, rfl⟩ ?_
  simp only [List.take_succ_cons, List.take_zero, List.drop_succ_cons, List.drop_zero]
  repeat (go_big_quiet_step (first | (go_at_call 73; exact XW.call _ (checkTable_curve c.tab a b off cap _ hm (H.mono (((Ext.refl w).alloc _).trans (Subtype.property _))))) | (go_at_call 37; exact XW.same _ (within_curve _ _ _ _))))
  refine wpQuiet_nil ?_
  rintro w2 ⟨x, rfl⟩
  go_wp2_with (go_at_call 36; refine (first_curve3 _ _ _ _ _).mono ?_; rintro e w3 ⟨rfl, hx3⟩)
  go_ret
  exact ⟨rfl, (((Ext.refl w).alloc _).trans x.2).trans hx3⟩

theorem szCell : ∀ W : World, (sizeOf 53).run Try.prog W = .ok 3 W := fun _ => by kernel_rfl
theorem szChain : ∀ W : World, (sizeOf 54).run Try.prog W = .ok 1 W := fun _ => by kernel_rfl
theorem infoErr : (Try.prog.info? 31).map (fun i => (i.zero, i.size, i.bytes)) = some (some (.int .i64 0), 1, 8) := by kernel_rfl

theorem mapped_checkCell (cs : List PCell) (a : Option Addr) (b off cap : Nat) (w : World) (hn : cs.length ≤ 1000000) (hm : ∀ c ∈ cs, c.tab.length ≤ 1000000000) (H : CellsAt w a b off cs) :
  Calls Try.prog 64 #[.slice a cs.length cap, .func (.func 65) #[] #[]] w fun r w' =>
    ∃ a' b' cap', r = .returned (.slice a' cs.length cap') ∧ IntsAt w' a' b' 0 (cs.map checkCellL) ∧ Ext w w' := by
  go_enter Try.func64, Try.ntmps64
  go_wp2
  go_loopw [5, 10] (fun v i wr => ∃ k : Nat, k ≤ cs.length ∧ i = .int .i64 k ∧ wr.ownsRow w.heap.size 31 1 v k (((cs.take k).map checkCellL).map (Value.int .i64)) ∧ Ext w wr) (fun _ i _ => cs.length - (intOf i).toNat)
  case atStart => exact ⟨0, Nat.zero_le _, rfl, owns_nil _ _ _ _, Ext.refl _⟩
  case round =>
    obtain ⟨k, hk, rfl, hown, hx⟩ := hrel
    have hidx := CellsAt.idx Try.underlying54 szCell H cap k
    by_cases hlt : k < cs.length
    · obtain ⟨ta, tb, toff, tcap, h1, h2, h3, h4⟩ := (H.mono hx).cell k hlt
      have hmem := hm (cs.getD k default) (by simp [List.getD_eq_getElem?_getD, hlt])
      have hsn := Lib.hid (take_map_snoc checkCellL cs k default hlt)
      generalize cs.getD k default = c at *
      go_wp2_with fail
      refine (checkCell_curve c ta tb toff tcap _ hmem (h1.mono ((Ext.refl _).alloc _))).mono ?_
      rintro e w2 ⟨rfl, hx2⟩
      have hx3 : Ext wr w2 := ((Ext.refl wr).alloc _).trans hx2
      have hx4 := hx.trans hx3
      have hown2 := owns_ext hown hx3
      go_wp2_with (at_builtin; refine append_new w2 rfl _ _ 90 rfl w.heap.size 31 (.int .i64 0) 1 8 Try.underlying90 infoErr rfl (by decide) _ _ _ rfl hown2 1 rfl rfl (by simp [Value.oneCell']) (by simp [maxLen]; omega) (by omega) hx4.size ?_; intro v' w3 hown' hb3 hsz3)
      have hx5 : Ext w w3 := hb3 _ _ hx4 (Nat.le_refl _)
      exact ⟨⟨k + 1, by omega, by go_num, by rw [hsn.out]; simpa using hown', hx5⟩, by simp [intOf]; omega⟩
    · have hkk : k = cs.length := by omega
      obtain ⟨a', b', cap', hv, hi, _⟩ := owns_ints (xs := (cs.take k).map checkCellL) (by simp; omega) hown
      subst hv
      rw [List.take_of_length_le (by omega)] at hi
      have hl : ((cs.take k).map checkCellL).length = cs.length := by simp; omega
      go_wp2
      go_ret
      exact ⟨a', b', cap', by simpa using hl, hi, hx⟩


theorem checkChain_curve (cs : List PCell) (a : Option Addr) (b off cap : Nat) (w : World) (hn : cs.length ≤ 1000000000) (hm : ∀ c ∈ cs, c.tab.length ≤ 1000000000) (H : CellsAt w a b off cs) :
  Calls Try.prog 50 #[.slice a cs.length cap] w fun r w' => r = .returned (.int .i64 (checkChainL cs)) ∧ Ext w w' := by
  by_cases h0 : cs.length = 0
  · have hc : firstL [if (cs.length : Int) = 0 then 12 else 0, if 8 < (cs.length : Int) then 5 else 0] = 12 := by simp [h0, firstL]
    have Hc := Lib.hid hc
    clear hc
    have H0 := Lib.hid h0
    clear h0
    go_enter Try.func50, Try.ntmps50
    go_wp2_with fail
    refine (counted_curve _ _ _).mono ?_
    rw [Hc.out]
    rintro e w1 ⟨rfl, hx1⟩
    go_wp2
    go_ret
    exact ⟨ret_int (by simp [checkChainL, H0.out]), hx1⟩
  by_cases h8 : 8 < cs.length
  · have hc : firstL [if (cs.length : Int) = 0 then 12 else 0, if 8 < (cs.length : Int) then 5 else 0] = 5 := by rw [if_neg (by omega), if_pos (by omega)]; rfl
    have Hc := Lib.hid hc
    clear hc
    have H0 := Lib.hid h0
    clear h0
    go_enter Try.func50, Try.ntmps50
    go_wp2_with fail
    refine (counted_curve _ _ _).mono ?_
    rw [Hc.out]
    rintro e w1 ⟨rfl, hx1⟩
    go_wp2
    go_ret
    exact ⟨ret_int (by simp only [checkChainL]; rw [if_neg H0.out, if_pos h8]), hx1⟩
  have hc : firstL [if (cs.length : Int) = 0 then 12 else 0, if 8 < (cs.length : Int) then 5 else 0] = 0 := by rw [if_neg (by omega), if_neg (by omega)]; rfl
  have Hc := Lib.hid hc
  clear hc
  have H0 := Lib.hid h0
  clear h0
  go_enter Try.func50, Try.ntmps50
  go_wp2_with fail
  refine (counted_curve _ _ _).mono ?_
  rw [Hc.out]
  rintro e w1 ⟨rfl, hx1⟩
  go_wp2_with fail
  refine (mapped_checkCell cs a b off cap _ (by omega) hm (H.mono hx1)).mono ?_
  rintro e w2 ⟨a', b', cap', rfl, hi, hx2⟩
  go_wp2_with fail
  refine (first_curveN hi _ _ (by simp) (by omega)).mono ?_
  rintro e w3 ⟨rfl, rfl⟩
  go_wp2
  go_ret
  exact ⟨ret_int (by simp only [checkChainL]; rw [if_neg H0.out, if_neg h8]), hx1.trans hx2⟩

theorem mapped_checkChain (f : List (List PCell)) (a : Option Addr) (b off cap : Nat) (w : World) (hn : f.length ≤ 1000000) (hm : ∀ cs ∈ f, cs.length ≤ 1000000000 ∧ ∀ c ∈ cs, c.tab.length ≤ 1000000000) (H : FieldAt w a b off f) :
  Calls Try.prog 49 #[.slice a f.length cap, .func (.func 50) #[] #[]] w fun r w' =>
    ∃ a' b' cap', r = .returned (.slice a' f.length cap') ∧ IntsAt w' a' b' 0 (f.map checkChainL) ∧ Ext w w' := by
  go_enter Try.func49, Try.ntmps49
  go_wp2
  go_loopw [5, 10] (fun v i wr => ∃ k : Nat, k ≤ f.length ∧ i = .int .i64 k ∧ wr.ownsRow w.heap.size 31 1 v k (((f.take k).map checkChainL).map (Value.int .i64)) ∧ Ext w wr) (fun _ i _ => f.length - (intOf i).toNat)
  case atStart => exact ⟨0, Nat.zero_le _, rfl, owns_nil _ _ _ _, Ext.refl _⟩
  case round =>
    obtain ⟨k, hk, rfl, hown, hx⟩ := hrel
    have hidx := FieldAt.idx Try.underlying29 szChain H cap k
    by_cases hlt : k < f.length
    · obtain ⟨ta, tb, toff, tcap, h1, h2⟩ := (H.mono hx).cell k hlt
      have hmem := hm (f.getD k []) (by simp [List.getD_eq_getElem?_getD, hlt])
      have hsn := Lib.hid (take_map_snoc checkChainL f k [] hlt)
      generalize f.getD k [] = c at *
      go_wp2_with fail
      refine (checkChain_curve c ta tb toff tcap _ hmem.1 hmem.2 h1).mono ?_
      rintro e w2 ⟨rfl, hx2⟩
      have hx4 := hx.trans hx2
      have hown2 := owns_ext hown hx2
      go_wp2_with (at_builtin; refine append_new w2 rfl _ _ 90 rfl w.heap.size 31 (.int .i64 0) 1 8 Try.underlying90 infoErr rfl (by decide) _ _ _ rfl hown2 1 rfl rfl (by simp [Value.oneCell']) (by simp [maxLen]; omega) (by omega) hx4.size ?_; intro v' w3 hown' hb3 hsz3)
      have hx5 : Ext w w3 := hb3 _ _ hx4 (Nat.le_refl _)
      exact ⟨⟨k + 1, by omega, by go_num, by rw [hsn.out]; simpa using hown', hx5⟩, by simp [intOf]; omega⟩
    · have hkk : k = f.length := by omega
      obtain ⟨a', b', cap', hv, hi, _⟩ := owns_ints (xs := (f.take k).map checkChainL) (by simp; omega) hown
      subst hv
      rw [List.take_of_length_le (by omega)] at hi
      have hl : ((f.take k).map checkChainL).length = f.length := by simp; omega
      go_wp2
      go_ret
      exact ⟨a', b', cap', by simpa using hl, hi, hx⟩

def FieldOk (f : List (List PCell)) : Prop := f.length ≤ 1000000000 ∧ ∀ cs ∈ f, cs.length ≤ 1000000000 ∧ ∀ c ∈ cs, c.tab.length ≤ 1000000000

theorem checkField_curve (f : List (List PCell)) (a : Option Addr) (b off cap : Nat) (w : World) (hn : FieldOk f) (H : FieldAt w a b off f) :
  Calls Try.prog 27 #[.slice a f.length cap] w fun r w' => r = .returned (.int .i64 (checkFieldL f)) ∧ Ext w w' := by
  obtain ⟨hn, hm⟩ := hn
  by_cases h0 : f.length = 0
  · have hc : firstL [if (f.length : Int) = 0 then 12 else 0, if 6 < (f.length : Int) then 5 else 0] = 12 := by simp [h0, firstL]
    have Hc := Lib.hid hc
    clear hc
    have H0 := Lib.hid h0
    clear h0
    go_enter Try.func27, Try.ntmps27
    go_wp2_with fail
    refine (counted_curve _ _ _).mono ?_
    rw [Hc.out]
    rintro e w1 ⟨rfl, hx1⟩
    go_wp2
    go_ret
    exact ⟨ret_int (by simp [checkFieldL, H0.out]), hx1⟩
  by_cases h8 : 6 < f.length
  · have hc : firstL [if (f.length : Int) = 0 then 12 else 0, if 6 < (f.length : Int) then 5 else 0] = 5 := by rw [if_neg (by omega), if_pos (by omega)]; rfl
    have Hc := Lib.hid hc
    clear hc
    have H0 := Lib.hid h0
    clear h0
    go_enter Try.func27, Try.ntmps27
    go_wp2_with fail
    refine (counted_curve _ _ _).mono ?_
    rw [Hc.out]
    rintro e w1 ⟨rfl, hx1⟩
    go_wp2
    go_ret
    exact ⟨ret_int (by simp only [checkFieldL]; rw [if_neg H0.out, if_pos h8]), hx1⟩
  have hc : firstL [if (f.length : Int) = 0 then 12 else 0, if 6 < (f.length : Int) then 5 else 0] = 0 := by rw [if_neg (by omega), if_neg (by omega)]; rfl
  have Hc := Lib.hid hc
  clear hc
  have H0 := Lib.hid h0
  clear h0
  go_enter Try.func27, Try.ntmps27
  go_wp2_with fail
  refine (counted_curve _ _ _).mono ?_
  rw [Hc.out]
  rintro e w1 ⟨rfl, hx1⟩
  go_wp2_with fail
  refine (mapped_checkChain f a b off cap _ (by omega) hm (H.mono hx1)).mono ?_
  rintro e w2 ⟨a', b', cap', rfl, hi, hx2⟩
  go_wp2_with fail
  refine (first_curveN hi _ _ (by simp) (by omega)).mono ?_
  rintro e w3 ⟨rfl, rfl⟩
  go_wp2
  go_ret
  exact ⟨ret_int (by simp only [checkFieldL]; rw [if_neg H0.out, if_neg h8]), hx1.trans hx2⟩
end Go.Proofs.Ytencdgmcpnbfcaa
