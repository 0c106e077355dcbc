/- curve.CheckTable. -/
import Derived.Test.YtencdgmcpnbfcaaErr
import Derived.Test.YtencdgmcpnbfcaaRegion
namespace Go.Proofs.Ytencdgmcpnbfcaa
open Go.RowKit
set_option maxHeartbeats 1000000
theorem run_neq_pt (x y x' y' : Int) (W : World) : (binOp .neq 49 (.agg #[.int .i64 x, .int .i64 y]) (.agg #[.int .i64 x', .int .i64 y'])).run Try.prog W = .ok (.bool (!(decide (x = x') && decide (y = y')))) W := by
  simp [go_sem]
  by_cases h1 : x = x' <;> by_cases h2 : y = y' <;> simp [h1, h2]
attribute [local go_sem ↓ high] run_neq_pt
theorem szPt : ∀ W : World, (sizeOf 49).run Try.prog W = .ok 2 W := fun _ => by kernel_rfl


theorem checkTable_curve (ps : List (Int × Int)) (a : Option Addr) (b off cap : Nat) (w : World) (hm : ps.length ≤ 1000000000) (H : PtsAt w a b off ps) :
  Calls Try.prog 73 #[.slice a ps.length cap] w fun r w' => r = .returned (.int .i64 (checkTableL ps)) ∧ Ext w w' := by
  by_cases h2 : ps.length < 2
  · go_enter Try.func73, Try.ntmps73
    go_wp2_with (first | (go_at_call 39; refine (when_curve _ _ _).mono ?_; rintro e w' ⟨rfl, rfl⟩) | (go_at_call 36; refine (first_curve2 _ _ _ _).mono ?_; rintro e w1 ⟨rfl, hx1⟩))
    go_ret
    exact ⟨ret_int (by simp [checkTableL, h2, firstL]), ‹Ext _ _›⟩
  by_cases h8 : 8 < ps.length
  · go_enter Try.func73, Try.ntmps73
    go_wp2_with (first | (go_at_call 39; refine (when_curve _ _ _).mono ?_; rintro e w' ⟨rfl, rfl⟩) | (go_at_call 36; refine (first_curve2 _ _ _ _).mono ?_; rintro e w1 ⟨rfl, hx1⟩))
    go_ret
    exact ⟨ret_int (by simp [checkTableL, h2, h8, firstL]), ‹Ext _ _›⟩
  have HL : Hid (checkTableL ps = tblGo true (-1, 200) ps) := by unfold Hid checkTableL; rw [if_neg h2, if_neg h8]
  go_enter Try.func73, Try.ntmps73
  go_wp2_with (first | (go_at_call 39; refine (when_curve _ _ _).mono ?_; rintro e w' ⟨rfl, rfl⟩) | (go_at_call 36; refine (first_curve2 _ _ _ _).mono ?_; rintro e w1 ⟨rfl, hx1⟩))
  have hs1 := hx1.size
  go_loopw [24] (fun i wr => ∃ k : Nat, k ≤ ps.length ∧ i = .int .i64 k ∧ tblGo true (-1, 200) ps = tblGo (k == 0) (tblPrev ps k) (ps.drop k) ∧ Ext w1 wr ∧ w1.heap.size < wr.heap.size ∧ wr.cell? ⟨w1.heap.size, 0, none⟩ = some (.int .i64 (tblPrev ps k).1) ∧ wr.cell? ⟨w1.heap.size, 1, none⟩ = some (.int .i64 (tblPrev ps k).2) ∧ wr.frozen? ⟨w1.heap.size, 0, none⟩ = false ∧ wr.frozen? ⟨w1.heap.size, 1, none⟩ = false) (fun i _ => ps.length - (intOf i).toNat)
  case atStart => exact ⟨0, Nat.zero_le _, rfl, rfl, (Ext.refl _).alloc _, by simp, by simp [tblPrev], by simp [tblPrev], by simp, by simp⟩
  case round =>
    obtain ⟨k, hk, rfl, hf, hb, hsz, hbx, hby, hfx, hfy⟩ := hrel
    have hxr : Ext w wr := hx1.trans hb
    have Hr := H.mono hxr
    have hidx := PtsAt.idx Try.underlying51 szPt H cap k
    have hcX := Hr.cellX k
    have hcY := Hr.cellY k
    generalize hpv : tblPrev ps k = bf at *
    obtain ⟨bx, bY⟩ := bf
    generalize hp : ps.getD k (0, 0) = p at *
    obtain ⟨px, py⟩ := p
    simp only [] at hbx hby hcX hcY
    have Hf := Lib.hid hf
    have Hpv := Lib.hid hpv
    have Hp := Lib.hid hp
    clear hf hpv hp
    by_cases hlt : k < ps.length
    · have hcX' := hcX hlt
      have hcY' := hcY hlt
      clear hcX hcY
      have cases : (((k : Int) == 0) = true ∧ decide (px = 0) = false ∧ Hid (tblE (k == 0) (bx, bY) (px, py) = firstL [withinL px 0 100, withinL py 0 200, 11])) ∨ (((k : Int) == 0) = true ∧ decide (px = 0) = true ∧ decide (px ≤ bx) = true ∧ Hid (tblE (k == 0) (bx, bY) (px, py) = firstL [withinL px 0 100, withinL py 0 200, 11])) ∨ (((k : Int) == 0) = true ∧ decide (px = 0) = true ∧ decide (px ≤ bx) = false ∧ decide (bY < py) = true ∧ Hid (tblE (k == 0) (bx, bY) (px, py) = firstL [withinL px 0 100, withinL py 0 200, 11])) ∨ (((k : Int) == 0) = true ∧ decide (px = 0) = true ∧ decide (px ≤ bx) = false ∧ decide (bY < py) = false ∧ Hid (tblE (k == 0) (bx, bY) (px, py) = firstL [withinL px 0 100, withinL py 0 200, 0])) ∨ (((k : Int) == 0) = false ∧ decide (px ≤ bx) = true ∧ Hid (tblE (k == 0) (bx, bY) (px, py) = firstL [withinL px 0 100, withinL py 0 200, 11])) ∨ (((k : Int) == 0) = false ∧ decide (px ≤ bx) = false ∧ decide (bY < py) = true ∧ Hid (tblE (k == 0) (bx, bY) (px, py) = firstL [withinL px 0 100, withinL py 0 200, 11])) ∨ (((k : Int) == 0) = false ∧ decide (px ≤ bx) = false ∧ decide (bY < py) = false ∧ Hid (tblE (k == 0) (bx, bY) (px, py) = firstL [withinL px 0 100, withinL py 0 200, 0])) := by
        have hb0 : ((k : Int) == 0) = (k == 0) := by rw [Bool.eq_iff_iff]; simp
        cases h0 : ((k : Int) == 0) <;> cases h1 : decide (px = 0) <;> cases h2 : decide (px ≤ bx) <;> cases h3 : decide (bY < py) <;>
          simp only [Bool.false_eq_true, reduceCtorEq, false_and, true_and, or_false, false_or] <;> rw [hb0] at h0 <;> simp only [decide_eq_true_eq, decide_eq_false_iff_not] at h1 h2 h3 <;> unfold Hid tblE <;> rw [h0] <;>
          first | rw [if_pos (by simp; omega)] | rw [if_neg (by simp; omega)]
      rcases cases with ⟨c0, c1, HE⟩ | ⟨c0, c1, c2, HE⟩ | ⟨c0, c1, c2, c3, HE⟩ | ⟨c0, c1, c2, c3, HE⟩ | ⟨c0, c2, HE⟩ | ⟨c0, c2, c3, HE⟩ | ⟨c0, c2, c3, HE⟩
      all_goals
        go_wp2
        have f1 := fun x : XW (wr.alloc (.cells #[.int .i64 px, .int .i64 py] 49)) => XW.cell_new (o := 0) rfl x
        have f2 := fun x : XW (wr.alloc (.cells #[.int .i64 px, .int .i64 py] 49)) => XW.cell_new (o := 1) rfl x
        have f3 := fun x : XW (wr.alloc (.cells #[.int .i64 px, .int .i64 py] 49)) => XW.cell_alloc hbx hsz x
        have f4 := fun x : XW (wr.alloc (.cells #[.int .i64 px, .int .i64 py] 49)) => XW.cell_alloc hby hsz x
        refine wp_region_tail 30 (XC (wr.alloc (.cells #[.int .i64 px, .int .i64 py] 49))) (by kernel_rfl) (by kernel_rfl) ⟨⟨_, (Ext.refl _).drew⟩, rfl⟩ ?_
        simp only [List.take_succ_cons, List.take_zero, List.drop_succ_cons, List.drop_zero]
        repeat (go_big_quiet_step (first | (go_at_call 39; exact XW.same _ (when_curve _ _ _)) | (go_at_call 37; exact XW.same _ (within_curve _ _ _ _))))
        refine wpQuiet_nil ?_
        rintro w2 ⟨x, rfl⟩
        go_wp2_with fail
        refine (first_curve3 _ _ _ _ _).mono ?_
        rintro e w3 ⟨rfl, hx3⟩
        have hxw : Ext wr w3 := (((Ext.refl wr).alloc _).trans x.2).trans hx3
        have g1 := keep_ext hx3 (Nat.lt_of_lt_of_le (by simp) (Ext.size x.2)) (f1 x)
        have g2 := keep_ext hx3 (Nat.lt_of_lt_of_le (by simp) (Ext.size x.2)) (f2 x)
        have g3 := keep_ext hxw hsz hbx
        have g4 := keep_ext hxw hsz hby
        have g5 := (hxw.frozen (p := ⟨w1.heap.size, 0, none⟩) hsz).trans hfx
        have g6 := (hxw.frozen (p := ⟨w1.heap.size, 1, none⟩) hsz).trans hfy
        have hsz3 := Nat.lt_of_lt_of_le hsz hxw.size
        clear f1 f2 f3 f4
        go_wp2
        all_goals first
          | (go_ret; exact ⟨ret_int (tbl_ret HL.out Hf.out hlt Hp.out HE.out ‹_›), hxr.trans hxw⟩)
          | (refine ⟨⟨k + 1, by omega, by go_num, ?_⟩, ?_⟩; rw [tblPrev_next Hp.out]; exact ⟨tbl_next Hf.out hlt Hp.out HE.out ‹_›, ((hb.trans hxw).setCell (Nat.le_refl _) _).setCell (Nat.le_refl _) _, by simpa using hsz3, by go_simp, by go_simp, by simp [g5], by simp [g6]⟩; simp [intOf]; omega)
          | go_ways
    · have hd : tblGo true (-1, 200) ps = if bY ≠ 0 then 32 else 0 := by
        have := Hf.out
        rw [List.drop_of_length_le (by omega)] at this
        simpa [tblGo] using this
      have Hd := Lib.hid hd
      clear hd
      by_cases hz : bY = 0
      all_goals
        go_wp2_with (go_at_call 39; refine (when_curve _ _ _).mono ?_; rintro e w' ⟨rfl, rfl⟩)
        go_ret
        exact ⟨ret_int (by rw [HL.out, Hd.out]; simp [hz]), hxr⟩
end Go.Proofs.Ytencdgmcpnbfcaa
