/- the top package: the fixed example. -/
import Derived.Test.YtencdgmcpnbfcaaTopD
namespace Go.Proofs.Ytencdgmcpnbfcaa
open Go.RowKit
set_option maxHeartbeats 2000000
set_option maxRecDepth 100000

def exTab : List (Int × Int) := [(0, 10), (4, 8), (6, 0)]
def exCell : PCell := ⟨exTab, 1000, 0⟩
def exField : List (List PCell) := [[exCell]]
theorem exTab_ok : TabOk exTab := by
  refine ⟨by decide, by decide, ?_, ?_, ?_, ?_, ?_, ?_, by decide, by decide⟩ <;>
  · intro i hi
    simp only [exTab, List.length_cons, List.length_nil] at hi
    rcases (show i = 0 ∨ i = 1 ∨ i = 2 by omega) with rfl | rfl | rfl <;> first | decide | omega
theorem exField_ok : FieldOk' exField := ⟨by decide, by decide, fun cs hcs => by
  simp [exField] at hcs
  subst hcs
  exact ⟨by decide, by decide, fun c hc => by
    simp at hc
    subst hc
    exact ⟨exTab_ok, by decide, by decide, by decide, by decide⟩⟩⟩
theorem exEnd : endL exField = 6 := by decide +kernel
theorem exCurve : curveL exField 7 = [200, 9, 9, 8, 8, 4, 0] := by decide +kernel
theorem exPowers : powI (curveL exField 7) 7 = [0, 9, 18, 24, 32, 20, 0] := by rw [exCurve]; decide
theorem exHigh : hiL (fieldPowers exField 7) = (4, 32) := by rw [fieldPowers, exCurve]; decide
theorem exVis : visL [0, 9, 18, 24, 32, 20, 0] (1, 1) 4 = [1, 2, 3, 4, 5] := by decide

theorem exVTab : VTab [0, 9, 18, 24, 32, 20, 0] := by
  refine ⟨by decide, by decide, ?_, ?_⟩ <;>
  · intro i hi
    simp only [List.length_cons, List.length_nil] at hi
    rcases (show i = 0 ∨ i = 1 ∨ i = 2 ∨ i = 3 ∨ i = 4 ∨ i = 5 ∨ i = 6 by omega) with rfl | rfl | rfl | rfl | rfl | rfl | rfl <;> decide
theorem exAt (w : World) : FieldAt (((w.alloc (.cells #[.int .i64 0, .int .i64 10, .int .i64 4, .int .i64 8, .int .i64 6, .int .i64 0] 49)).alloc (.cells #[.slice (some ⟨w.heap.size, 0, none⟩) 3 3, .int .i64 1000, .int .i64 0] 53)).alloc (.cells #[.slice (some ⟨w.heap.size + 1, 0, none⟩) 1 1] 54)) (some ⟨w.heap.size + 2, 0, none⟩) (w.heap.size + 2) 0 exField := by
  have sz : ∀ (u : World) (o : Obj), (u.alloc o).heap.size = u.heap.size + 1 := fun u o => by simp
  have p1 : PtsAt (w.alloc (.cells #[.int .i64 0, .int .i64 10, .int .i64 4, .int .i64 8, .int .i64 6, .int .i64 0] 49)) (some ⟨w.heap.size, 0, none⟩) w.heap.size 0 exTab := by
    refine ⟨fun _ => rfl, fun _ => by simp, fun i hi => ?_, fun i hi => ?_⟩ <;>
    · simp only [exTab, List.length_cons, List.length_nil] at hi
      rw [World.cell?_alloc_at _ _ _ _ rfl]
      rcases (show i = 0 ∨ i = 1 ∨ i = 2 by omega) with rfl | rfl | rfl <;> rfl
  refine ⟨fun _ => rfl, fun _ => by simp, fun i hi => ?_⟩
  obtain rfl : i = 0 := by simp [exField] at hi; exact hi
  refine ⟨some ⟨w.heap.size + 1, 0, none⟩, w.heap.size + 1, 0, 1, ?_, ?_⟩
  · refine ⟨fun _ => rfl, fun _ => by simp, fun i hi => ?_⟩
    obtain rfl : i = 0 := by simp [exField] at hi; exact hi
    refine ⟨some ⟨w.heap.size, 0, none⟩, w.heap.size, 0, 3, (p1.mono ((Ext.refl _).alloc _)).mono ((Ext.refl _).alloc _), ?_, ?_, ?_⟩ <;>
    · refine keep_ext ((Ext.refl _).alloc _) (by simp) ?_
      rw [World.cell?_alloc_at _ _ _ _ (sz w _).symm]
      rfl
  · rw [World.cell?_alloc_at _ _ _ _ (by rw [sz, sz])]
    rfl
theorem peak_top (w : World) : Calls Try.prog 5 #[] w fun r w' => r = .returned (.bool true) ∧ Ext w w' := by
  go_enter Try.func5, Try.ntmps5
  go_wp2_with fail
  obtain ⟨W, hW⟩ : ∃ W, ((w.alloc (.cells #[.int .i64 0, .int .i64 10, .int .i64 4, .int .i64 8, .int .i64 6, .int .i64 0] 49)).alloc (.cells #[.slice (some ⟨w.heap.size, 0, none⟩) 3 3, .int .i64 1000, .int .i64 0] 53)).alloc (.cells #[.slice (some ⟨w.heap.size + 1, 0, none⟩) 1 1] 54) = W := ⟨_, rfl⟩
  rw [hW]
  have H : FieldAt W (some ⟨w.heap.size + 2, 0, none⟩) (w.heap.size + 2) 0 exField := by rw [← hW]; exact exAt w
  have hx0 : Ext w W := by rw [← hW]; exact (((Ext.refl _).alloc _).alloc _).alloc _
  clear hW
  have Hfin := Lib.hid (show exField.length = 1 from rfl)
  refine (powers_top exField 6 exEnd.symm _ _ _ 1 W exField_ok H).mono ?_
  rw [exPowers]
  rintro e w1 ⟨⟨a1, b1, cap1, rfl, h1⟩, hx1⟩
  go_wp2_with fail
  refine (Highest_curve exField 6 exEnd.symm _ _ _ 1 w1 exField_ok (H.mono hx1)).mono ?_
  rw [exHigh]
  rintro e w2 ⟨rfl, hx2⟩
  go_wp2_with fail
  refine (search_inverter [0, 9, 18, 24, 32, 20, 0] 1 1 4 _ _ _ cap1 w2 exVTab (by omega) ⟨by decide, .inl rfl⟩ (h1.mono hx2)).mono ?_
  rintro e w3 ⟨a3, b3, cap3, rfl, h3, hx3⟩
  rw [exVis] at h3
  go_wp2_with fail
  refine (same_q [0, 9, 18, 24, 32, 20, 0] [0, 9, 18, 24, 32, 20, 0] _ _ _ _ _ _ _ _ _ (by decide) (by decide) ((h1.mono (hx2.trans hx3)).mono ((Ext.refl _).alloc _)) (IntsAt.new w3 _ _ _ rfl)).mono ?_
  rw [decide_eq_true rfl]
  rintro e w4 ⟨rfl, hx4⟩
  have hx34 := ((Ext.refl w3).alloc _).trans hx4
  go_wp2_with fail
  refine (same_q [1, 2, 3, 4, 5] [1, 2, 3, 4, 5] _ _ _ _ _ _ _ _ _ (by decide) (by decide) ((h3.mono hx34).mono ((Ext.refl _).alloc _)) (IntsAt.new w4 _ _ _ rfl)).mono ?_
  rw [decide_eq_true rfl]
  rintro e w5 ⟨rfl, hx5⟩
  go_wp2
  go_ret
  exact ⟨rfl, ((((hx0.trans hx1).trans hx2).trans hx3).trans hx34).trans (((Ext.refl w4).alloc _).trans hx5)⟩
end Go.Proofs.Ytencdgmcpnbfcaa
