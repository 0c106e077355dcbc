/- The small functions on errors: when, within, first. -/
import Derived.Test.YtencdgmcpnbfcaaRows
import Derived.Test.YtencdgmcpnbfcaaBase
namespace Go.Proofs.Ytencdgmcpnbfcaa
open Go.RowKit
set_option maxHeartbeats 400000

theorem szErr : ∀ W : World, (sizeOf 31).run Try.prog W = .ok 1 W := fun _ => by kernel_rfl

theorem when_curve (b : Bool) (e : Int) (w : World) :
    Calls Try.prog 39 #[.bool b, .int .i64 e] w fun r w' => r = .returned (.int .i64 (if b then e else 0)) ∧ w = w' := by
  cases b <;>
  · go_enter Try.func39, Try.ntmps39
    go_wp2
    go_ret
    exact ⟨rfl, rfl⟩

theorem within_curve (n a b : Int) (w : World) :
    Calls Try.prog 37 #[.int .i64 n, .int .i64 a, .int .i64 b] w fun r w' => r = .returned (.int .i64 (withinL n a b)) ∧ w = w' := by
  unfold withinL
  by_cases h1 : n < a
  · go_enter Try.func37, Try.ntmps37
    go_wp2_with (go_at_call 39; refine (when_curve _ _ _).mono ?_; rintro e w' ⟨rfl, rfl⟩)
    go_ret
    simp [h1]
  · by_cases h2 : b < n
    all_goals
      go_enter Try.func37, Try.ntmps37
      go_wp2_with (go_at_call 39; refine (when_curve _ _ _).mono ?_; rintro e w' ⟨rfl, rfl⟩)
      go_ret
      simp [h1, h2]

theorem first_curve (es : List Int) (a : Option Addr) (b off cap : Nat) (w : World) (hn : es.length ≤ 1000000) (H : IntsAt w a b off es) :
    Calls Try.prog 36 #[.slice a es.length cap] w fun r w' => r = .returned (.int .i64 (firstL es)) ∧ w = w' := by
  go_enter Try.func36, Try.ntmps36
  go_wp2
  go_loop [7] (fun i => ∃ k : Nat, k ≤ es.length ∧ i = .int .i64 k ∧ firstL es = firstL (es.drop k)) (fun i => es.length - (intOf i).toNat)
  case atStart => exact ⟨0, Nat.zero_le _, rfl, rfl⟩
  case round =>
    obtain ⟨k, hk, rfl, hf⟩ := hrel
    have hcell := H.cell k
    have hidx := IntsAt.idx Try.underlying90 szErr H cap k
    have HF := Lib.hid hf
    clear hf
    go_wp2
    all_goals first
      | (go_ret; exact ⟨ret_int (first_found HF.out ‹_› ‹_›), rfl⟩)
      | (go_ret; exact ⟨ret_int (first_end HF.out ‹_›), rfl⟩)
      | exact ⟨⟨k + 1, by omega, by go_num, first_next HF.out ‹_› ‹_›⟩, by simp [intOf]; omega⟩

theorem first_curveN {es : List Int} {a : Option Addr} {b off : Nat} {w : World} (H : IntsAt w a b off es) (n cap : Nat) (hl : n = es.length) (hn : n ≤ 1000000) :
    Calls Try.prog 36 #[.slice a n cap] w fun r w' => r = .returned (.int .i64 (firstL es)) ∧ w = w' := by
  subst hl; exact first_curve es a b off cap w hn H
theorem first_curve2 (w : World) (x0 x1 : Int) (T : TypeId) :
    Calls Try.prog 36 #[.slice (some ⟨w.heap.size, 0, none⟩) 2 2] (w.alloc (.cells #[.int .i64 x0, .int .i64 x1] T)) fun r w' => r = .returned (.int .i64 (firstL [x0, x1])) ∧ Ext w w' :=
  (first_curve [x0, x1] _ _ _ _ _ (by simp) (IntsAt.new w [x0, x1] _ T rfl)).mono fun e w' ⟨h, hw⟩ => ⟨h, hw ▸ (Ext.refl w).alloc _⟩
theorem first_curve3 (w : World) (x0 x1 x2 : Int) (T : TypeId) :
    Calls Try.prog 36 #[.slice (some ⟨w.heap.size, 0, none⟩) 3 3] (w.alloc (.cells #[.int .i64 x0, .int .i64 x1, .int .i64 x2] T)) fun r w' => r = .returned (.int .i64 (firstL [x0, x1, x2])) ∧ Ext w w' :=
  (first_curve [x0, x1, x2] _ _ _ _ _ (by simp) (IntsAt.new w [x0, x1, x2] _ T rfl)).mono fun e w' ⟨h, hw⟩ => ⟨h, hw ▸ (Ext.refl w).alloc _⟩
theorem first_curve4 (w : World) (x0 x1 x2 x3 : Int) (T : TypeId) :
    Calls Try.prog 36 #[.slice (some ⟨w.heap.size, 0, none⟩) 4 4] (w.alloc (.cells #[.int .i64 x0, .int .i64 x1, .int .i64 x2, .int .i64 x3] T)) fun r w' => r = .returned (.int .i64 (firstL [x0, x1, x2, x3])) ∧ Ext w w' :=
  (first_curve [x0, x1, x2, x3] _ _ _ _ _ (by simp) (IntsAt.new w [x0, x1, x2, x3] _ T rfl)).mono fun e w' ⟨h, hw⟩ => ⟨h, hw ▸ (Ext.refl w).alloc _⟩
theorem first_curve5 (w : World) (x0 x1 x2 x3 x4 : Int) (T : TypeId) :
    Calls Try.prog 36 #[.slice (some ⟨w.heap.size, 0, none⟩) 5 5] (w.alloc (.cells #[.int .i64 x0, .int .i64 x1, .int .i64 x2, .int .i64 x3, .int .i64 x4] T)) fun r w' => r = .returned (.int .i64 (firstL [x0, x1, x2, x3, x4])) ∧ Ext w w' :=
  (first_curve [x0, x1, x2, x3, x4] _ _ _ _ _ (by simp) (IntsAt.new w [x0, x1, x2, x3, x4] _ T rfl)).mono fun e w' ⟨h, hw⟩ => ⟨h, hw ▸ (Ext.refl w).alloc _⟩
theorem first_curve6 (w : World) (x0 x1 x2 x3 x4 x5 : Int) (T : TypeId) :
    Calls Try.prog 36 #[.slice (some ⟨w.heap.size, 0, none⟩) 6 6] (w.alloc (.cells #[.int .i64 x0, .int .i64 x1, .int .i64 x2, .int .i64 x3, .int .i64 x4, .int .i64 x5] T)) fun r w' => r = .returned (.int .i64 (firstL [x0, x1, x2, x3, x4, x5])) ∧ Ext w w' :=
  (first_curve [x0, x1, x2, x3, x4, x5] _ _ _ _ _ (by simp) (IntsAt.new w [x0, x1, x2, x3, x4, x5] _ T rfl)).mono fun e w' ⟨h, hw⟩ => ⟨h, hw ▸ (Ext.refl w).alloc _⟩
theorem when_inverter (b : Bool) (e : Int) (w : World) :
    Calls Try.prog 33 #[.bool b, .int .i64 e] w fun r w' => r = .returned (.int .i64 (if b then e else 0)) ∧ w = w' := by
  cases b <;>
  · go_enter Try.func33, Try.ntmps33
    go_wp2
    go_ret
    exact ⟨rfl, rfl⟩

theorem within_inverter (n a b : Int) (w : World) :
    Calls Try.prog 34 #[.int .i64 n, .int .i64 a, .int .i64 b] w fun r w' => r = .returned (.int .i64 (withinL n a b)) ∧ w = w' := by
  unfold withinL
  by_cases h1 : n < a
  · go_enter Try.func34, Try.ntmps34
    go_wp2_with (go_at_call 33; refine (when_inverter _ _ _).mono ?_; rintro e w' ⟨rfl, rfl⟩)
    go_ret
    simp [h1]
  · by_cases h2 : b < n
    all_goals
      go_enter Try.func34, Try.ntmps34
      go_wp2_with (go_at_call 33; refine (when_inverter _ _ _).mono ?_; rintro e w' ⟨rfl, rfl⟩)
      go_ret
      simp [h1, h2]

theorem first_inverter (es : List Int) (a : Option Addr) (b off cap : Nat) (w : World) (hn : es.length ≤ 1000000) (H : IntsAt w a b off es) :
    Calls Try.prog 32 #[.slice a es.length cap] w fun r w' => r = .returned (.int .i64 (firstL es)) ∧ w = w' := by
  go_enter Try.func32, Try.ntmps32
  go_wp2
  go_loop [7] (fun i => ∃ k : Nat, k ≤ es.length ∧ i = .int .i64 k ∧ firstL es = firstL (es.drop k)) (fun i => es.length - (intOf i).toNat)
  case atStart => exact ⟨0, Nat.zero_le _, rfl, rfl⟩
  case round =>
    obtain ⟨k, hk, rfl, hf⟩ := hrel
    have hcell := H.cell k
    have hidx := IntsAt.idx Try.underlying90 szErr H cap k
    have HF := Lib.hid hf
    clear hf
    go_wp2
    all_goals first
      | (go_ret; exact ⟨ret_int (first_found HF.out ‹_› ‹_›), rfl⟩)
      | (go_ret; exact ⟨ret_int (first_end HF.out ‹_›), rfl⟩)
      | exact ⟨⟨k + 1, by omega, by go_num, first_next HF.out ‹_› ‹_›⟩, by simp [intOf]; omega⟩

theorem first_inverterN {es : List Int} {a : Option Addr} {b off : Nat} {w : World} (H : IntsAt w a b off es) (n cap : Nat) (hl : n = es.length) (hn : n ≤ 1000000) :
    Calls Try.prog 32 #[.slice a n cap] w fun r w' => r = .returned (.int .i64 (firstL es)) ∧ w = w' := by
  subst hl; exact first_inverter es a b off cap w hn H
theorem first_inverter2 (w : World) (x0 x1 : Int) (T : TypeId) :
    Calls Try.prog 32 #[.slice (some ⟨w.heap.size, 0, none⟩) 2 2] (w.alloc (.cells #[.int .i64 x0, .int .i64 x1] T)) fun r w' => r = .returned (.int .i64 (firstL [x0, x1])) ∧ Ext w w' :=
  (first_inverter [x0, x1] _ _ _ _ _ (by simp) (IntsAt.new w [x0, x1] _ T rfl)).mono fun e w' ⟨h, hw⟩ => ⟨h, hw ▸ (Ext.refl w).alloc _⟩
theorem first_inverter3 (w : World) (x0 x1 x2 : Int) (T : TypeId) :
    Calls Try.prog 32 #[.slice (some ⟨w.heap.size, 0, none⟩) 3 3] (w.alloc (.cells #[.int .i64 x0, .int .i64 x1, .int .i64 x2] T)) fun r w' => r = .returned (.int .i64 (firstL [x0, x1, x2])) ∧ Ext w w' :=
  (first_inverter [x0, x1, x2] _ _ _ _ _ (by simp) (IntsAt.new w [x0, x1, x2] _ T rfl)).mono fun e w' ⟨h, hw⟩ => ⟨h, hw ▸ (Ext.refl w).alloc _⟩
theorem first_inverter4 (w : World) (x0 x1 x2 x3 : Int) (T : TypeId) :
    Calls Try.prog 32 #[.slice (some ⟨w.heap.size, 0, none⟩) 4 4] (w.alloc (.cells #[.int .i64 x0, .int .i64 x1, .int .i64 x2, .int .i64 x3] T)) fun r w' => r = .returned (.int .i64 (firstL [x0, x1, x2, x3])) ∧ Ext w w' :=
  (first_inverter [x0, x1, x2, x3] _ _ _ _ _ (by simp) (IntsAt.new w [x0, x1, x2, x3] _ T rfl)).mono fun e w' ⟨h, hw⟩ => ⟨h, hw ▸ (Ext.refl w).alloc _⟩
theorem first_inverter5 (w : World) (x0 x1 x2 x3 x4 : Int) (T : TypeId) :
    Calls Try.prog 32 #[.slice (some ⟨w.heap.size, 0, none⟩) 5 5] (w.alloc (.cells #[.int .i64 x0, .int .i64 x1, .int .i64 x2, .int .i64 x3, .int .i64 x4] T)) fun r w' => r = .returned (.int .i64 (firstL [x0, x1, x2, x3, x4])) ∧ Ext w w' :=
  (first_inverter [x0, x1, x2, x3, x4] _ _ _ _ _ (by simp) (IntsAt.new w [x0, x1, x2, x3, x4] _ T rfl)).mono fun e w' ⟨h, hw⟩ => ⟨h, hw ▸ (Ext.refl w).alloc _⟩
theorem first_inverter6 (w : World) (x0 x1 x2 x3 x4 x5 : Int) (T : TypeId) :
    Calls Try.prog 32 #[.slice (some ⟨w.heap.size, 0, none⟩) 6 6] (w.alloc (.cells #[.int .i64 x0, .int .i64 x1, .int .i64 x2, .int .i64 x3, .int .i64 x4, .int .i64 x5] T)) fun r w' => r = .returned (.int .i64 (firstL [x0, x1, x2, x3, x4, x5])) ∧ Ext w w' :=
  (first_inverter [x0, x1, x2, x3, x4, x5] _ _ _ _ _ (by simp) (IntsAt.new w [x0, x1, x2, x3, x4, x5] _ T rfl)).mono fun e w' ⟨h, hw⟩ => ⟨h, hw ▸ (Ext.refl w).alloc _⟩

theorem szInt : ∀ W : World, (sizeOf 3).run Try.prog W = .ok 1 W := fun _ => by kernel_rfl
theorem when_q (b : Bool) (e : Int) (w : World) :
    Calls Try.prog 42 #[.bool b, .int .i64 e] w fun r w' => r = .returned (.int .i64 (if b then e else 0)) ∧ w = w' := by
  cases b <;>
  · go_enter Try.func42, Try.ntmps42
    go_wp2
    go_ret
    exact ⟨rfl, rfl⟩

theorem range_q (n a b : Int) (w : World) :
    Calls Try.prog 69 #[.int .i64 n, .int .i64 a, .int .i64 b] w fun r w' => r = .returned (.int .i64 (withinL n a b)) ∧ w = w' := by
  unfold withinL
  by_cases h1 : n < a
  · go_enter Try.func69, Try.ntmps69
    go_wp2_with (go_at_call 42; refine (when_q _ _ _).mono ?_; rintro e w' ⟨rfl, rfl⟩)
    go_ret
    simp [h1]
  · by_cases h2 : b < n
    all_goals
      go_enter Try.func69, Try.ntmps69
      go_wp2_with (go_at_call 42; refine (when_q _ _ _).mono ?_; rintro e w' ⟨rfl, rfl⟩)
      go_ret
      simp [h1, h2]

theorem first_q (es : List Int) (a : Option Addr) (b off cap : Nat) (w : World) (hn : es.length ≤ 1000000) (H : IntsAt w a b off es) :
    Calls Try.prog 41 #[.slice a es.length cap] w fun r w' => r = .returned (.int .i64 (firstL es)) ∧ w = w' := by
  go_enter Try.func41, Try.ntmps41
  go_wp2
  go_loop [3] (fun i => ∃ k : Nat, k ≤ es.length ∧ i = .int .i64 k ∧ firstL es = firstL (es.drop k)) (fun i => es.length - (intOf i).toNat)
  case atStart => exact ⟨0, Nat.zero_le _, rfl, rfl⟩
  case round =>
    obtain ⟨k, hk, rfl, hf⟩ := hrel
    have hcell := H.cell k
    have hidx := IntsAt.idx Try.underlying26 szInt H cap k
    have HF := Lib.hid hf
    clear hf
    go_wp2
    all_goals first
      | (go_ret; exact ⟨ret_int (first_found HF.out ‹_› ‹_›), rfl⟩)
      | (go_ret; exact ⟨ret_int (first_end HF.out ‹_›), rfl⟩)
      | exact ⟨⟨k + 1, by omega, by go_num, first_next HF.out ‹_› ‹_›⟩, by simp [intOf]; omega⟩
theorem first_qN {es : List Int} {a : Option Addr} {b off : Nat} {w : World} (H : IntsAt w a b off es) (n cap : Nat) (hl : n = es.length) (hn : n ≤ 1000000) :
    Calls Try.prog 41 #[.slice a n cap] w fun r w' => r = .returned (.int .i64 (firstL es)) ∧ w = w' := by
  subst hl; exact first_q es a b off cap w hn H
theorem first_q2 (w : World) (x0 x1 : Int) (T : TypeId) :
    Calls Try.prog 41 #[.slice (some ⟨w.heap.size, 0, none⟩) 2 2] (w.alloc (.cells #[.int .i64 x0, .int .i64 x1] T)) fun r w' => r = .returned (.int .i64 (firstL [x0, x1])) ∧ Ext w w' :=
  (first_q [x0, x1] _ _ _ _ _ (by simp) (IntsAt.new w [x0, x1] _ T rfl)).mono fun e w' ⟨h, hw⟩ => ⟨h, hw ▸ (Ext.refl w).alloc _⟩
theorem first_q3 (w : World) (x0 x1 x2 : Int) (T : TypeId) :
    Calls Try.prog 41 #[.slice (some ⟨w.heap.size, 0, none⟩) 3 3] (w.alloc (.cells #[.int .i64 x0, .int .i64 x1, .int .i64 x2] T)) fun r w' => r = .returned (.int .i64 (firstL [x0, x1, x2])) ∧ Ext w w' :=
  (first_q [x0, x1, x2] _ _ _ _ _ (by simp) (IntsAt.new w [x0, x1, x2] _ T rfl)).mono fun e w' ⟨h, hw⟩ => ⟨h, hw ▸ (Ext.refl w).alloc _⟩
theorem first_q4 (w : World) (x0 x1 x2 x3 : Int) (T : TypeId) :
    Calls Try.prog 41 #[.slice (some ⟨w.heap.size, 0, none⟩) 4 4] (w.alloc (.cells #[.int .i64 x0, .int .i64 x1, .int .i64 x2, .int .i64 x3] T)) fun r w' => r = .returned (.int .i64 (firstL [x0, x1, x2, x3])) ∧ Ext w w' :=
  (first_q [x0, x1, x2, x3] _ _ _ _ _ (by simp) (IntsAt.new w [x0, x1, x2, x3] _ T rfl)).mono fun e w' ⟨h, hw⟩ => ⟨h, hw ▸ (Ext.refl w).alloc _⟩
theorem first_q5 (w : World) (x0 x1 x2 x3 x4 : Int) (T : TypeId) :
    Calls Try.prog 41 #[.slice (some ⟨w.heap.size, 0, none⟩) 5 5] (w.alloc (.cells #[.int .i64 x0, .int .i64 x1, .int .i64 x2, .int .i64 x3, .int .i64 x4] T)) fun r w' => r = .returned (.int .i64 (firstL [x0, x1, x2, x3, x4])) ∧ Ext w w' :=
  (first_q [x0, x1, x2, x3, x4] _ _ _ _ _ (by simp) (IntsAt.new w [x0, x1, x2, x3, x4] _ T rfl)).mono fun e w' ⟨h, hw⟩ => ⟨h, hw ▸ (Ext.refl w).alloc _⟩
theorem first_q6 (w : World) (x0 x1 x2 x3 x4 x5 : Int) (T : TypeId) :
    Calls Try.prog 41 #[.slice (some ⟨w.heap.size, 0, none⟩) 6 6] (w.alloc (.cells #[.int .i64 x0, .int .i64 x1, .int .i64 x2, .int .i64 x3, .int .i64 x4, .int .i64 x5] T)) fun r w' => r = .returned (.int .i64 (firstL [x0, x1, x2, x3, x4, x5])) ∧ Ext w w' :=
  (first_q [x0, x1, x2, x3, x4, x5] _ _ _ _ _ (by simp) (IntsAt.new w [x0, x1, x2, x3, x4, x5] _ T rfl)).mono fun e w' ⟨h, hw⟩ => ⟨h, hw ▸ (Ext.refl w).alloc _⟩

def hasL (xs : List Int) (n : Int) : Bool := decide (n ∈ xs)
theorem has_q (xs : List Int) (n : Int) (a : Option Addr) (b off cap : Nat) (w : World) (hn : xs.length ≤ 1000000) (H : IntsAt w a b off xs) :
    Calls Try.prog 15 #[.slice a xs.length cap, .int .i64 n] w fun r w' => r = .returned (.bool (hasL xs n)) ∧ w = w' := by
  go_enter Try.func15, Try.ntmps15
  go_wp2
  go_loop [5] (fun i => ∃ k : Nat, k ≤ xs.length ∧ i = .int .i64 k ∧ ∀ j, j < k → xs.getD j 0 ≠ n) (fun i => xs.length - (intOf i).toNat)
  case atStart => exact ⟨0, Nat.zero_le _, rfl, fun j hj => by omega⟩
  case round =>
    obtain ⟨k, hk, rfl, hf⟩ := hrel
    have hidx := IntsAt.idx Try.underlying26 szInt H cap k
    have HF := Lib.hid hf
    clear hf
    by_cases hlt : k < xs.length
    · have hcell := H.cell k hlt
      generalize hx : xs.getD k 0 = x at *
      have Hx := Lib.hid hx
      clear hx
      by_cases he : x = n
      · have hb : (x == n) = true := by simp [he]
        have He := Lib.hid he
        clear he
        go_wp2
        go_ret
        refine ⟨ret_bool ?_, rfl⟩
        rw [hasL, decide_eq_true (by rw [← He.out, ← Hx.out, List.getD_eq_getElem?_getD, List.getElem?_eq_getElem hlt]; simp)]
      · have hb : (x == n) = false := by simpa using he
        go_wp2
        exact ⟨⟨k + 1, by omega, by go_num, fun j hj => by
          by_cases e : j = k
          · subst e; rw [Hx.out]; exact he
          · exact HF.out j (by omega)⟩, by simp [intOf]; omega⟩
    · go_wp2
      go_ret
      refine ⟨ret_bool ?_, rfl⟩
      rw [hasL, decide_eq_false]
      rintro hm
      obtain ⟨j, hj, he⟩ := List.getElem_of_mem hm
      exact HF.out j (by omega) (by rw [List.getD_eq_getElem?_getD, List.getElem?_eq_getElem hj]; simpa using he)
end Go.Proofs.Ytencdgmcpnbfcaa
