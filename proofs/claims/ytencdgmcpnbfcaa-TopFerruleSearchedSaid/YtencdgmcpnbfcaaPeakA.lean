/- curve: the comparison of peaks. -/
import Derived.Test.YtencdgmcpnbfcaaInvE
namespace Go.Proofs.Ytencdgmcpnbfcaa
open Go.RowKit
set_option maxHeartbeats 1000000
set_option maxRecDepth 100000

def compareL (a b : Int) : Int := if a < b then -1 else if b < a then 1 else 0
theorem isNaN_cmp (a : Int) (w : World) : Calls Try.prog 72 #[.int .i64 a] w fun r w' => r = .returned (.bool false) ∧ w = w' := by
  go_enter Try.func72, Try.ntmps72
  go_wp2
  go_ret
  exact ⟨by simp, rfl⟩
theorem compare_cmp (a b : Int) (w : World) : Calls Try.prog 63 #[.int .i64 a, .int .i64 b] w fun r w' => r = .returned (.int .i64 (compareL a b)) ∧ w = w' := by
  unfold compareL
  by_cases h1 : a < b
  · rw [if_pos h1]
    go_enter Try.func63, Try.ntmps63
    go_wp2_with (go_at_call 72; refine (isNaN_cmp _ _).mono ?_; rintro e w' ⟨rfl, rfl⟩)
    go_ret
    exact ⟨rfl, rfl⟩
  · rw [if_neg h1]
    by_cases h2 : b < a
    · rw [if_pos h2]
      go_enter Try.func63, Try.ntmps63
      go_wp2_with (go_at_call 72; refine (isNaN_cmp _ _).mono ?_; rintro e w' ⟨rfl, rfl⟩)
      go_ret
      exact ⟨rfl, rfl⟩
    · rw [if_neg h2]
      go_enter Try.func63, Try.ntmps63
      go_wp2_with (go_at_call 72; refine (isNaN_cmp _ _).mono ?_; rintro e w' ⟨rfl, rfl⟩)
      go_ret
      exact ⟨rfl, rfl⟩

theorem or_cmp (es : List Int) (a : Option Addr) (b off cap : Nat) (w : World) (hn : es.length ≤ 1000000) (H : IntsAt w a b off es) :
    Calls Try.prog 62 #[.slice a es.length cap] w fun r w' => r = .returned (.int .i64 (firstL es)) ∧ w = w' := by
  go_enter Try.func62, Try.ntmps62
  go_wp2
  go_loop [8] (fun i => ∃ k : Nat, k ≤ es.length ∧ i = .int .i64 k ∧ firstL es = firstL (es.drop k)) (fun i => es.length - (intOf i).toNat)
  case atStart => exact ⟨0, Nat.zero_le _, rfl, rfl⟩
  case round =>
    obtain ⟨k, hk, rfl, hrest⟩ := hrel
    have Hrest := Lib.hid hrest
    clear hrest
    have hidx := IntsAt.idx Try.underlying26 szInt H cap k
    by_cases hlt : k < es.length
    · have h1 := H.cell k hlt
      have hd := Lib.hid (firstL_drop es k hlt)
      generalize es.getD k 0 = x at *
      by_cases h0 : x = 0
      · subst h0
        go_wp2
        exact ⟨⟨k + 1, by omega, by go_num, by rw [Hrest.out, hd.out, if_pos rfl]⟩, by simp [intOf]; omega⟩
      · go_wp2
        go_ret
        exact ⟨ret_int (by rw [Hrest.out, hd.out, if_neg h0]), rfl⟩
    · go_wp2
      go_ret
      exact ⟨ret_int (by rw [Hrest.out, List.drop_of_length_le (by omega)]; rfl), rfl⟩
theorem or_cmp2 (w : World) (x0 x1 : Int) (T : TypeId) :
    Calls Try.prog 62 #[.slice (some ⟨w.heap.size, 0, none⟩) 2 2] (w.alloc (.cells #[.int .i64 x0, .int .i64 x1] T)) fun r w' => r = .returned (.int .i64 (firstL [x0, x1])) ∧ Ext w w' :=
  (or_cmp [x0, x1] _ _ _ _ _ (by simp) (IntsAt.new w [x0, x1] _ T rfl)).mono fun e w' ⟨h, hw⟩ => ⟨h, hw ▸ (Ext.refl w).alloc _⟩

/-- A peak: its voltage, its power. -/
abbrev PPeak := Int × Int
def pv (p : PPeak) : Value := .agg #[.int .i64 p.1, .int .i64 p.2]
def cmpPeak (p o : PPeak) : Int := firstL [compareL o.2 p.2, compareL p.1 o.1]
theorem compare_curve (v p v' p' : Int) (w : World) :
    Calls Try.prog 45 #[.agg #[.int .i64 v, .int .i64 p], .agg #[.int .i64 v', .int .i64 p']] w fun r w' => r = .returned (.int .i64 (cmpPeak (v, p) (v', p'))) ∧ Ext w w' := by
  go_enter Try.func45, Try.ntmps45
  go_wp2
  obtain ⟨w1, hw1⟩ : ∃ w1, w.alloc (.cells #[.int .i64 v, .int .i64 p] 63) = w1 := ⟨_, rfl⟩
  have k1 : w1.cell? ⟨w.heap.size, 0, none⟩ = some (.int .i64 v) := by rw [← hw1, World.cell?_alloc_at _ _ _ _ rfl]; rfl
  have k2 : w1.cell? ⟨w.heap.size, 1, none⟩ = some (.int .i64 p) := by rw [← hw1, World.cell?_alloc_at _ _ _ _ rfl]; rfl
  have hx1 : Ext w w1 := by rw [← hw1]; exact (Ext.refl _).alloc _
  have hs1 : w1.heap.size = w.heap.size + 1 := by rw [← hw1]; simp
  rw [hw1]
  obtain ⟨w2, hw2⟩ : ∃ w2, w1.alloc (.cells #[.int .i64 v', .int .i64 p'] 63) = w2 := ⟨_, rfl⟩
  have k3 : w2.cell? ⟨w.heap.size + 1, 0, none⟩ = some (.int .i64 v') := by rw [← hs1, ← hw2, World.cell?_alloc_at _ _ _ _ rfl]; rfl
  have k4 : w2.cell? ⟨w.heap.size + 1, 1, none⟩ = some (.int .i64 p') := by rw [← hs1, ← hw2, World.cell?_alloc_at _ _ _ _ rfl]; rfl
  have hx2 : Ext w1 w2 := by rw [← hw2]; exact (Ext.refl _).alloc _
  have hs2 : w2.heap.size = w.heap.size + 2 := by rw [← hw2]; simp [hs1]
  replace k1 := keep_ext hx2 (by omega) k1
  replace k2 := keep_ext hx2 (by omega) k2
  have hx := hx1.trans hx2
  rw [hw2]
  clear hw1 hw2 hx1 hx2
  have f1 := XW.cell k1 (by omega)
  have f2 := XW.cell k2 (by omega)
  have f3 := XW.cell k3 (by omega)
  have f4 := XW.cell k4 (by omega)
  refine wp_region_tail 12 (XC w2) (by kernel_rfl) (by kernel_rfl) ⟨⟨_, (Ext.refl _).drew⟩, rfl⟩ ?_
  simp only [List.take_succ_cons, List.take_zero, List.drop_succ_cons, List.drop_zero]
  repeat (go_big_quiet_step ((go_at_call 63; exact XW.same _ (compare_cmp _ _ _))))
  refine wpQuiet_nil ?_
  rintro w3 ⟨x, rfl⟩
  go_wp2_with (go_at_call 62; refine (or_cmp2 _ _ _ _).mono ?_; rintro e w3 ⟨rfl, hx3⟩)
  go_ret
  exact ⟨rfl, (hx.trans x.2).trans hx3⟩
end Go.Proofs.Ytencdgmcpnbfcaa
