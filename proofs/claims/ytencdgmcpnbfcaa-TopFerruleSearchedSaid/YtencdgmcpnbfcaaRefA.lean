/- combinerref04: the check of a table. -/
import Derived.Test.YtencdgmcpnbfcaaErr
import Derived.Test.YtencdgmcpnbfcaaRegion
namespace Go.Proofs.Ytencdgmcpnbfcaa
open Go.RowKit
set_option maxHeartbeats 2000000
set_option maxRecDepth 100000
theorem szPtR : ∀ W : World, (sizeOf 49).run Try.prog W = .ok 2 W := fun _ => by kernel_rfl
theorem wrap_pred (j : Nat) (h : j ≤ 1000000) : IntKind.i64.wrap ((j : Int) + 1 - 1) = (j : Int) := by rw [IntKind.wrap_i64]; omega

theorem tab_step {ps : List (Int × Int)} {j : Nat} {px py qx qy : Int} (hq : ps.getD j (0, 0) = (qx, qy)) (hp : ps.getD (j + 1) (0, 0) = (px, py)) (c2 : decide (px ≤ qx) = false) (c3 : decide (qy < py) = false) :
    ∀ i, j + 1 = i + 1 → (ps.getD i (0, 0)).1 < (ps.getD (j + 1) (0, 0)).1 ∧ (ps.getD (j + 1) (0, 0)).2 ≤ (ps.getD i (0, 0)).2 := by
  intro i hi
  obtain rfl : i = j := by omega
  rw [hq, hp]
  simp at c2 c3
  simp only
  omega
theorem checkTable_r04 (ps : List (Int × Int)) (a : Option Addr) (b off cap : Nat) (w : World) (hm : ps.length ≤ 1000000000) (H : PtsAt w a b off ps) :
  Calls Try.prog 68 #[.slice a ps.length cap] w fun r w' => SomeInt (fun e => e = 0 → TabOk ps) r ∧ Ext w w' := by
  by_cases h2 : ps.length < 2
  · go_enter Try.func68, Try.ntmps68
    go_wp2_with (first | (go_at_call 42; refine (when_q _ _ _).mono ?_; rintro e w' ⟨rfl, rfl⟩) | (go_at_call 41; refine (first_q2 _ _ _ _).mono ?_; rintro e w1 ⟨rfl, hx1⟩))
    go_ret
    exact ⟨someInt (by simp [firstL]), ‹Ext _ _›⟩
  by_cases h8 : 8 < ps.length
  · go_enter Try.func68, Try.ntmps68
    go_wp2_with (first | (go_at_call 42; refine (when_q _ _ _).mono ?_; rintro e w' ⟨rfl, rfl⟩) | (go_at_call 41; refine (first_q2 _ _ _ _).mono ?_; rintro e w1 ⟨rfl, hx1⟩))
    go_ret
    exact ⟨someInt (by simp [firstL]), ‹Ext _ _›⟩
  go_enter Try.func68, Try.ntmps68
  go_wp2_with (first | (go_at_call 42; refine (when_q _ _ _).mono ?_; rintro e w' ⟨rfl, rfl⟩) | (go_at_call 41; refine (first_q2 _ _ _ _).mono ?_; rintro e w1 ⟨rfl, hx1⟩))
  go_loopw [4] (fun i wr => ∃ k : Nat, k ≤ ps.length ∧ i = .int .i64 k ∧ TabUpto ps k ∧ Ext w wr) (fun i _ => ps.length - (intOf i).toNat)
  case atStart => exact ⟨0, Nat.zero_le _, rfl, TabUpto.zero _, hx1⟩
  case round =>
    obtain ⟨k, hk, rfl, hf, hxr⟩ := hrel
    have Hr := H.mono hxr
    have Hf := Lib.hid hf
    clear hf
    by_cases hlt : k < ps.length
    · have hidx := fun W => PtsAt.idx Try.underlying57 szPtR H cap k W hlt
      have hcX := Hr.cellX k hlt
      have hcY := Hr.cellY k hlt
      have hbw := Hr.lt (by rintro rfl; simp at hlt)
      generalize hp : ps.getD k (0, 0) = p at *
      obtain ⟨px, py⟩ := p
      simp only [] at hcX hcY
      have Hp := Lib.hid hp
      clear hp
      have f1 := XW.cell hcX hbw
      have f2 := XW.cell hcY hbw
      go_wp2
      refine wp_region_tail 12 (XC wr) (by kernel_rfl) (by kernel_rfl) ⟨⟨_, (Ext.refl _).drew⟩, rfl⟩ ?_
      simp only [List.take_succ_cons, List.take_zero, List.drop_succ_cons, List.drop_zero]
      repeat (go_big_quiet_step ((go_at_call 69; exact XW.same _ (range_q _ _ _ _))))
      refine wpQuiet_nil ?_
      rintro w2 ⟨x, rfl⟩
      go_wp2_with fail
      refine (first_q2 _ _ _ _).mono ?_
      rintro e w3 ⟨rfl, hx3⟩
      have hxw : Ext wr w3 := x.2.trans hx3
      clear f1 f2
      have hbw3 := Nat.lt_of_lt_of_le hbw hxw.size
      have f1 := XW.cell (keep_ext hxw hbw hcX) hbw3
      have f2 := XW.cell (keep_ext hxw hbw hcY) hbw3
      by_cases hne : firstL [withinL px 0 100, withinL py 0 200] = 0
      · have hz := (firstL_two.1 hne)
        have Hz := Lib.hid hz
        have hne' : (firstL [withinL px 0 100, withinL py 0 200] != 0) = false := by simpa using hne
        clear hz hne
        by_cases hk0 : k = 0
        · have c0 : ((k : Int) == 0) = true := by simp [hk0]
          have c1 : decide (0 < (k : Int)) = false := by simp [hk0]
          have c1' : decide (0 < k) = false := by simp [hk0]
          have Hk0 := Lib.hid hk0
          clear hk0
          by_cases hx0 : px = 0
          · have c2 : (px != 0) = false := by simp [hx0]
            have Hx0 := Lib.hid hx0
            clear hx0
            go_wp2
            refine wp_region_all (XC w3) (by kernel_rfl) (by kernel_rfl) ⟨⟨_, (Ext.refl _).drew⟩, rfl⟩ ?_
            repeat (go_big_quiet_step (fail))
            refine wpQuiet_nil ?_
            rintro w4 ⟨x4, rfl⟩
            go_wp2
            exact ⟨⟨k + 1, by omega, by go_num, Hf.out.next (by rw [Hp.out]; exact Hz.out.1) (by rw [Hp.out]; exact Hz.out.2) (fun _ => by rw [Hp.out]; exact Hx0.out) (fun j hj => by have := Hk0.out; omega), (hxr.trans hxw).trans x4.2⟩, by simp [intOf]; omega⟩
          · have c2 : (px != 0) = true := by simp [hx0]
            clear hx0
            go_wp2
            refine wp_region_all (XC w3) (by kernel_rfl) (by kernel_rfl) ⟨⟨_, (Ext.refl _).drew⟩, rfl⟩ ?_
            repeat (go_big_quiet_step (fail))
            refine wpQuiet_nil ?_
            rintro w4 ⟨x4, rfl⟩
            go_wp2
            go_ret
            exact ⟨someInt (by simp), (hxr.trans hxw).trans x4.2⟩
        · obtain ⟨j, rfl⟩ : ∃ j, k = j + 1 := ⟨k - 1, by omega⟩
          have c0 : (((j + 1 : Nat) : Int) == 0) = false := by simp <;> omega
          have c0' : ((j : Int) + 1 == 0) = false := by simp <;> omega
          have c1 : decide (0 < ((j + 1 : Nat) : Int)) = true := by simp <;> omega
          have c1' : decide (0 < (j : Int) + 1) = true := by simp <;> omega
          have hidx2 := fun W => PtsAt.idx Try.underlying57 szPtR H cap j W (by omega)
          have hidx3 := hidx
          simp only [Int.natCast_add, Int.cast_ofNat_Int] at hidx3
          have hw1 := wrap_pred j (by omega)
          have hqX := (Hr.mono hxw).cellX j (by omega)
          have hqY := (Hr.mono hxw).cellY j (by omega)
          generalize hq : ps.getD j (0, 0) = q at *
          obtain ⟨qx, qy⟩ := q
          simp only [] at hqX hqY
          have Hq := Lib.hid hq
          clear hq
          have f3 := XW.cell hqX hbw3
          have f4 := XW.cell hqY hbw3
          have cases : decide (px ≤ qx) = true ∨ (decide (px ≤ qx) = false ∧ decide (qy < py) = true) ∨ (decide (px ≤ qx) = false ∧ decide (qy < py) = false) := by
            cases decide (px ≤ qx) <;> cases decide (qy < py) <;> simp
          rcases cases with c2 | ⟨c2, c3⟩ | ⟨c2, c3⟩
          all_goals
            go_wp2
            refine wp_region_all (XC w3) (by kernel_rfl) (by kernel_rfl) ⟨⟨_, (Ext.refl _).drew⟩, rfl⟩ ?_
            repeat (go_big_quiet_step (fail))
            refine wpQuiet_nil ?_
            rintro w4 ⟨x4, rfl⟩
            go_wp2
            first
              | (go_ret; exact ⟨someInt (by simp), (hxr.trans hxw).trans x4.2⟩)
              | exact ⟨⟨j + 1 + 1, by omega, by go_num, Hf.out.next (by rw [Hp.out]; exact Hz.out.1) (by rw [Hp.out]; exact Hz.out.2) (fun h => by omega) (tab_step Hq.out Hp.out c2 c3), (hxr.trans hxw).trans x4.2⟩, by simp [intOf]; omega⟩
      · have hne' : (firstL [withinL px 0 100, withinL py 0 200] != 0) = true := by simpa using hne
        have Hne := Lib.hid hne
        clear hne
        go_wp2
        go_ret
        exact ⟨someInt (fun h => absurd h Hne.out), hxr.trans hxw⟩
    · have hkk : k = ps.length := by omega
      obtain ⟨j, hj⟩ : ∃ j, ps.length = j + 1 := ⟨ps.length - 1, by omega⟩
      have hidx := fun W => PtsAt.idx Try.underlying57 szPtR H cap j W (by omega)
      have hcY := Hr.cellY j (by omega)
      have hl : (ps.length : Int) - 1 = (j : Int) := by omega
      have hok : (ps.getD j (0, 0)).2 = 0 → TabOk ps := fun h => TabUpto.done (by have := Hf.out; rwa [hkk] at this) (by omega) (by omega) (by rw [hj, Nat.add_sub_cancel]; exact h)
      have Hok := Lib.hid hok
      clear hok hkk hj
      generalize (ps.getD j (0, 0)).2 = ly at *
      by_cases hz : ly = 0
      · have c : (ly != 0) = false := by simp [hz]
        have Hz := Lib.hid hz
        clear hz
        go_wp2_with (go_at_call 42; refine (when_q _ _ _).mono ?_; rintro e w' ⟨rfl, rfl⟩)
        go_ret
        exact ⟨someInt (fun _ => Hok.out Hz.out), hxr⟩
      · have c : (ly != 0) = true := by simp [hz]
        clear hz
        go_wp2_with (go_at_call 42; refine (when_q _ _ _).mono ?_; rintro e w' ⟨rfl, rfl⟩)
        go_ret
        exact ⟨someInt (by simp), hxr⟩
end Go.Proofs.Ytencdgmcpnbfcaa
