/- inverter: a search. -/
import Derived.Test.YtencdgmcpnbfcaaInvD
namespace Go.Proofs.Ytencdgmcpnbfcaa
open Go.RowKit Go.Shelf
set_option maxHeartbeats 2000000
set_option maxRecDepth 100000
attribute [local go_sem] Oper.semAt_some

theorem visits_inverter (a : Option Addr) (len cap : Nat) (from0 dir n : Int) (w : World) :
    Calls Try.prog 35 #[.slice a len cap, .int .i64 from0, .int .i64 dir, .int .i64 n] w fun r w' =>
      r = .returned (.func (.func 57) #[] #[.pointer (some ⟨w.heap.size + 1, 0, none⟩), .pointer (some ⟨w.heap.size + 3, 0, none⟩), .pointer (some ⟨w.heap.size + 2, 0, none⟩), .pointer (some ⟨w.heap.size, 0, none⟩)]) ∧
      w' = (((w.alloc (.cells #[.slice a len cap] 26)).alloc (.cells #[.int .i64 from0] 3)).alloc (.cells #[.int .i64 dir] 3)).alloc (.cells #[.int .i64 n] 3) := by
  go_enter Try.func35, Try.ntmps35
  go_wp2
  go_ret
  exact ⟨rfl, rfl⟩

theorem search_inverter (xs : List Int) (from0 : Nat) (dir : Int) (n : Nat) (a : Option Addr) (b off cap : Nat) (w : World) (ok : VTab xs) (hn : n ≤ 200) (hst : StateOk xs (from0, dir)) (H : IntsAt w a b off xs) :
    Calls Try.prog 13 #[.slice a xs.length cap, .int .i64 (from0 : Int), .int .i64 dir, .int .i64 (n : Int)] w fun r w' => ∃ a' b' cap', r = .returned (.tuple #[.slice a' (n + 1) cap', .int .i64 0]) ∧ IntsAt w' a' b' 0 (visL xs (from0, dir) n) ∧ Ext w w' := by
  have ho := ok.one
  have h2 := ok.most
  have hf := hst.1
  dsimp only at hf
  refine (callsIn_wide (n := 6)).1 ?_
  refine callsIn_of_wp_marks Try.func13 rfl trivial ?_ rfl
  simp only [Try.ntmps13, List.size_toArray, List.length_cons, List.length_nil, Nat.reduceAdd, Nat.reduceSub, Array.replicate_succ, Array.replicate_zero, List.push_toArray, List.append_toArray, List.nil_append, List.cons_append]
  have hlt : ¬ ((from0 : Int) < 0) := by omega
  have hge : ¬ ((xs.length : Int) ≤ (from0 : Int)) := by omega
  have hdir : (if (dir != 1 && dir != -1) = true then (1 : Int) else 0) = 0 := by
    rcases hst.2 with h | h <;> simp at h <;> simp [h]
  have hwi : withinL n 0 200 = 0 := withinL_ok (by omega) (by omega)
  have htests : (dir != 1) = false ∨ ((dir != 1) = true ∧ (dir != -1) = false) := by
    rcases hst.2 with h | h <;> simp at h <;> simp [h]
  have H0 := Lib.hid hst
  clear hst hdir
  rcases htests with td | ⟨td, td2⟩
  all_goals
    gi_wp2_with (first
      | (refine ⟨trivial, ?_⟩; gi_at_call 24; refine (callsIn_wide.2 (checkTable_inverter xs a b off cap _ ok H)).mono ?_; rintro e w1 ⟨rfl, hx1⟩)
      | (refine ⟨trivial, ?_⟩; gi_at_call 33; refine (callsIn_wide.2 (when_inverter _ _ _)).mono ?_; rintro e w' ⟨rfl, rfl⟩)
      | (refine ⟨trivial, ?_⟩; gi_at_call 34; refine (callsIn_wide.2 (within_inverter _ _ _ _)).mono ?_; rw [hwi]; rintro e w' ⟨rfl, rfl⟩)
      | (refine ⟨trivial, ?_⟩; gi_at_call 32; refine (callsIn_wide.2 (first_inverter4 _ _ _ _ _ _)).mono ?_; rintro e w2 ⟨rfl, hx2⟩)
      | (refine ⟨trivial, ?_⟩; gi_at_call 35; refine (callsIn_wide.2 (visits_inverter _ _ _ _ _ _ _)).mono ?_; rintro e w3 ⟨rfl, rfl⟩))
    have hxw : Ext w w2 := hx1.trans hx2
    have H2 := H.mono hxw
    obtain ⟨i0, hi, hz0, hz1, hz2⟩ := info_parts infoInt
    generalize hW5 : ((((w2.alloc (.cells #[.slice none 0 0] 26)).alloc (.cells #[.slice a xs.length cap] 26)).alloc (.cells #[.int .i64 (from0 : Int)] 3)).alloc (.cells #[.int .i64 dir] 3)).alloc (.cells #[.int .i64 (n : Int)] 3) = W5
    have hs5 : W5.heap.size = w2.heap.size + 5 := by rw [← hW5]; simp
    have hx5 : Ext w2 W5 := by rw [← hW5]; exact (((((Ext.refl _).alloc _).alloc _).alloc _).alloc _).alloc _
    have bO : Boxed W5 w2.heap.size 26 (.slice none 0 0) := by rw [← hW5]; exact ((((Boxed.new _ _ _).alloc _).alloc _).alloc _).alloc _
    have bL : Boxed W5 (w2.heap.size + 1) 26 (.slice a xs.length cap) := by
      rw [← hW5]; have := ((((Boxed.new (w2.alloc (.cells #[.slice none 0 0] 26)) 26 (.slice a xs.length cap)).alloc (.cells #[.int .i64 (from0 : Int)] 3)).alloc (.cells #[.int .i64 dir] 3)).alloc (.cells #[.int .i64 (n : Int)] 3)); simpa using this
    have bF : Boxed W5 (w2.heap.size + 2) 3 (.int .i64 (from0 : Int)) := by
      rw [← hW5]; have := (((Boxed.new ((w2.alloc (.cells #[.slice none 0 0] 26)).alloc (.cells #[.slice a xs.length cap] 26)) 3 (.int .i64 (from0 : Int))).alloc (.cells #[.int .i64 dir] 3)).alloc (.cells #[.int .i64 (n : Int)] 3)); simpa using this
    have bD : Boxed W5 (w2.heap.size + 3) 3 (.int .i64 dir) := by
      rw [← hW5]; have := ((Boxed.new (((w2.alloc (.cells #[.slice none 0 0] 26)).alloc (.cells #[.slice a xs.length cap] 26)).alloc (.cells #[.int .i64 (from0 : Int)] 3)) 3 (.int .i64 dir)).alloc (.cells #[.int .i64 (n : Int)] 3)); simpa using this
    have bN : Boxed W5 (w2.heap.size + 4) 3 (.int .i64 (n : Int)) := by
      rw [← hW5]; have := (Boxed.new ((((w2.alloc (.cells #[.slice none 0 0] 26)).alloc (.cells #[.slice a xs.length cap] 26)).alloc (.cells #[.int .i64 (from0 : Int)] 3)).alloc (.cells #[.int .i64 dir] 3)) 3 (.int .i64 (n : Int))); simpa using this
    clear hW5
    have hb2 : b < w2.heap.size := H2.lt (by intro e; rw [e] at ho; simp at ho)
    simp only [Nat.add_assoc, Nat.reduceAdd]
    refine wpIn_rangeFunc_runs rfl (by decide) (gf := 57) (lb := #[.pointer (some ⟨w2.heap.size + 2, 0, none⟩), .pointer (some ⟨w2.heap.size + 4, 0, none⟩), .pointer (some ⟨w2.heap.size + 3, 0, none⟩), .pointer (some ⟨w2.heap.size + 1, 0, none⟩)]) rfl trivial (enters_of Try.func57 (by kernel_rfl) rfl)
      (visits1 5 (by decide) xs from0 dir n a b off cap (w2.heap.size + 2) (w2.heap.size + 4) (w2.heap.size + 3) (w2.heap.size + 1) W5.heap.size (fun j => j = w2.heap.size) W5 (by omega) (by omega) H0.out bF ⟨bN, bD, bL, H2.mono hx5⟩ (by omega) (by omega) (by omega) (by omega) (by omega) (by omega) (by omega) (Nat.le_refl _) (by omega))
      KeepsBut.trans (fun W l o h => KeepsBut.putObj _ _ _ _ _ h) (fun r e => by cases e; omega) (Below.refl _ _) (fun _ => rfl)
      (fun (pre : List Int) W => (∃ v, Boxed W w2.heap.size 26 v ∧ W.ownsRow W5.heap.size 3 1 v pre.length (pre.map (Value.int .i64)) ∧ True) ∧ (Below w2.heap.size w2 W ∧ W5.heap.size ≤ W.heap.size))
      (OwnFrom.and (Own.from (holdsRow_own _ _ _ _ 1 (fun pre : List Int => pre.length) (fun pre : List Int => pre.map (Value.int .i64)) (fun _ _ => True)) _) (OwnFrom.and (ownFrom_below (Nat.le_refl _) (by omega)) (fun s A B row hs hg hr => Nat.le_trans hs hg.size)))
      ?_ ⟨⟨_, bO, owns_nil _ _ _ _, trivial⟩, hx5, Nat.le_refl _⟩ ?_ ?_ ?_ ?_
    · rintro s A B ⟨⟨v, hv, hr, _⟩, hb, hs⟩ hg
      exact ⟨⟨v, hv.kept hg (by simp), hr.kept hg (.inr fun e => by have := owns_block hr _ e; omega), trivial⟩, hb.grown hg hb.size (fun k e => by cases e; omega), Nat.le_trans hs hg.size⟩
    rotate_left
    · intro l x W K hK
      gi_wp2
      exact hK
    · rintro l pre x W ⟨⟨v, hv, hrow, _⟩, hB, h5⟩ hpre
      have hlp : pre.length + 1 ≤ 201 := by have := hpre.length_le; rw [visL_length] at this; simp at this; omega
      have hsz := hB.size
      have hc := hv.cell
      gi_wp2_with (gi_at_builtin; refine wpListIn_append_own _ rfl _ _ 26 rfl W5.heap.size 3 i0 (.int .i64 0) 1 8 Try.underlying26 hi hz0 hz1 hz2 rfl (by decide) _ _ _ rfl (hrow.alloc _) ⟨W.heap.size, 0, none⟩ 1 1 [.int .i64 x] rfl rfl (cell_one_new _ _ _) (by simp [Value.oneCell']) (by simp [maxLen]; omega) (by omega) (by simp; omega) ?_; intro v' w1 hown' hgrow _; obtain ⟨g', cap', rfl⟩ := ownsRow_succ hown'; obtain ⟨hv1, hv2, hr2, hk2, hkb2, hb2⟩ := boxed_beyond hv (by decide) hrow h5 hown' hgrow; have hc1 := hv1.cell; have hf1 := hv1.frozen)
      exact ⟨hk2, hkb2, ⟨_, hv2, by simpa using hr2, trivial⟩, hb2 _ _ hB (Nat.le_refl _) (by omega), Nat.le_trans h5 hk2.size⟩
    · rintro D W hD ⟨⟨v, hv, hrow, _⟩, hB, h5⟩ hK
      have hc := hv.cell
      gi_wp2
      refine ⟨by simp, .inl ⟨_, _, rfl, run_takeDeferred hK, ?_⟩⟩
      obtain ⟨a', b', cap', rfl, hia, _⟩ := owns_ints (by simp) (ownsRow_putObj hrow (.deferred none) hK rfl)
      refine ⟨.tuple #[.slice a' (visL xs (from0, dir) n).length cap', .int .i64 0], by simp [results, Try.f13, go_sem], a', b', cap', by rw [visL_length], hia, hxw.trans (hB.trans (belowK_b (w := W5) (by omega) W D _ _ hD hK rfl rfl))⟩
end Go.Proofs.Ytencdgmcpnbfcaa
