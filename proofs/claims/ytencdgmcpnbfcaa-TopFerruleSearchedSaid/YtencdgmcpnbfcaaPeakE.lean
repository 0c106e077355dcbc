/- curve: the powers of a curve as a list. -/
import Derived.Test.YtencdgmcpnbfcaaPeakD
namespace Go.Proofs.Ytencdgmcpnbfcaa
open Go.RowKit Go.Shelf
set_option maxHeartbeats 2000000
set_option maxRecDepth 100000
attribute [local go_sem] Oper.semAt_some

theorem cells_new (W : World) (us : List Value) (T : TypeId) (j : Nat) (u : Value) (hj : us[j]? = some u) : (W.alloc (.cells us.toArray T)).cell? ((⟨W.heap.size, 0, none⟩ : Addr).add j) = some u := by
  have e : (⟨W.heap.size, 0, none⟩ : Addr).add j = ⟨W.heap.size, j, none⟩ := by simp [Addr.add]; omega
  rw [e, World.cell?_alloc_at _ _ _ _ rfl]
  simpa using hj

theorem appendSeq_slices (xs : List Int) (a : Option Addr) (b off cap Bl : Nat) (w : World) (hlen : xs.length ≤ 10000) (hv : ∀ i, i < xs.length → 0 ≤ xs.getD i 0 ∧ xs.getD i 0 ≤ 100000) (hne : xs ≠ []) (bL : Boxed w Bl 26 (.slice a xs.length cap)) (H : IntsAt w a b off xs) :
    Calls Try.prog 51 #[.slice none 0 0, .func (.func 52) #[] #[.pointer (some ⟨Bl, 0, none⟩)]] w fun r w' => ∃ a' b' cap', r = .returned (.slice a' xs.length cap') ∧ PeaksAt w' a' b' (powersL xs xs.length) ∧ Ext w w' := by
  refine (callsIn_wide (n := 6)).1 ?_
  refine callsIn_of_wp_marks Try.func51 rfl trivial ?_ rfl
  simp only [Try.ntmps51, List.size_toArray, List.length_cons, List.length_nil, Nat.reduceAdd, Nat.reduceSub, Array.replicate_succ, Array.replicate_zero, List.push_toArray, List.append_toArray, List.nil_append, List.cons_append]
  gi_wp2
  obtain ⟨i0, hi, hz0, hz1, hz2⟩ := info_parts infoPeak
  generalize hW5 : w.alloc (.cells #[.slice none 0 0] 69) = W5
  have hs5 : w.heap.size + 1 ≤ W5.heap.size := by rw [← hW5]; simp
  have hx5 : Ext w W5 := by rw [← hW5]; exact (Ext.refl _).alloc _
  have bO : Boxed W5 w.heap.size 69 (.slice none 0 0) := by rw [← hW5]; exact Boxed.new _ _ _
  have bL5 := boxed_ext bL hx5
  clear hW5
  have hb2 : b < w.heap.size := H.lt hne
  have hBl := bL.lt
  refine wpIn_rangeFunc_runsH rfl (by decide) (gf := 52) (lb := #[.pointer (some ⟨Bl, 0, none⟩)]) rfl trivial (enters_of Try.func52 (by kernel_rfl) rfl)
    (powers1 5 (by decide) xs a b off cap Bl W5.heap.size (fun j => j = w.heap.size) W5 hlen hv hne bL5 (H.mono hx5) (by omega) (Nat.le_refl _))
    KeepsBut.trans (fun W l o h => KeepsBut.putObj _ _ _ _ _ h) (fun r e => by cases e) (Below.refl _ _) (fun _ => rfl)
    (fun (pre : List PPeak) W => (∃ v, Boxed W w.heap.size 69 v ∧ W.ownsRow W5.heap.size 63 2 v pre.length (peakCells pre) ∧ True) ∧ (Below w.heap.size w W ∧ W5.heap.size ≤ W.heap.size))
    (OwnFrom.and (Own.from (holdsRow_own _ _ _ _ 2 (fun pre : List PPeak => pre.length) (fun pre : List PPeak => peakCells pre) (fun _ _ => True)) _) (OwnFrom.and (ownFrom_below (Nat.le_refl _) (by omega)) (fun s A B row hs hg hr => Nat.le_trans hs hg.size)))
    (fun s A B hs hg => by
      obtain ⟨⟨v, h1, h2, _⟩, h3, h4⟩ := hs
      exact ⟨⟨v, h1.kept hg (by simp), h2.kept hg (by cases hvb : v.ownBlock with | none => exact .inl rfl | some r => exact .inr (by simp)), trivial⟩, h3.grown hg h3.size (fun k e => by cases e), Nat.le_trans h4 hg.size⟩)
    ⟨⟨_, bO, owns_nil _ _ _ _, trivial⟩, hx5, Nat.le_refl _⟩
    (fun x a' W => ∃ Bx, W5.heap.size ≤ Bx ∧ Box2 W Bx 63 (.int .i64 x.1) (.int .i64 x.2) ∧ a' = { tmps := #[.slice none 0 0, .func (.func 52) #[] #[.pointer (some ⟨Bl, 0, none⟩)], .pointer (some ⟨w.heap.size, 0, none⟩), undef, .slice none 0 0, .pointer (some ⟨Bx, 0, none⟩), .func (.func 52) #[] #[.pointer (some ⟨Bl, 0, none⟩)], .agg #[.int .i64 x.1, .int .i64 x.2], undef, undef, undef, undef, undef], defers := [] })
    ?hax ?assign ?body ?done
  case hax =>
    rintro x a' s A B row ⟨Bx, h1, h2, h3⟩ hg hr
    exact ⟨Bx, h1, h2.kept hg (fun e => by obtain ⟨_, o, ho, hc⟩ := hr _ e.symm; rw [show A.heap[_]? = _ from h2] at ho; cases ho; cases hc), h3⟩
  case assign =>
    rintro l pre x W K ⟨⟨v, k1, k2, _⟩, k4, k5⟩ hK
    gi_wp2
    refine hK _ _ (KeepsOthers.alloc _ _) (KeepsBut.grown (World.grownBy_alloc W _ none) k5 (fun r e => by cases e)) ⟨⟨v, k1.alloc _, k2.alloc _, trivial⟩, Below.alloc k4 k4.size _, Nat.le_trans k5 (by simp)⟩ ⟨W.heap.size, k5, Box2.new _ _ _ _, rfl⟩
  case body =>
    rintro l pre x a' W ⟨⟨v, hvb, hrow, _⟩, hB, h5⟩ ⟨Bx, h1, h2, rfl⟩ hpre
    obtain ⟨x1, x2⟩ := x
    have hlp : pre.length + 1 ≤ 10000 := by have := hpre.length_le; rw [powersL_length] at this; simp at this; omega
    have hsz := hB.size
    have hc := hvb.cell
    have c4 := h2.c0
    have c5 := h2.c1
    gi_wp2_with (gi_at_builtin; refine wpListIn_append_own _ rfl _ _ 69 rfl W5.heap.size 63 i0 (.agg #[.int .i64 0, .int .i64 0]) 2 16 Try.underlying69 hi hz0 hz1 hz2 rfl (by decide) _ _ _ rfl (hrow.alloc _) ⟨W.heap.size, 0, none⟩ 1 1 [.int .i64 x1, .int .i64 x2] rfl rfl (fun j u hj => cells_new W [.int .i64 x1, .int .i64 x2] _ j u hj) (by simp [Value.oneCell']) (by simp [maxLen]; omega) (by omega) (by simp; omega) ?_; intro v' w1 hown' hgrow _; obtain ⟨g', cap', rfl⟩ := ownsRow_succ hown'; obtain ⟨hv1, hv2, hr2, hk2, hkb2, hb2⟩ := boxed_beyond hvb (by decide) hrow h5 hown' hgrow; have hc1 := hv1.cell; have hf1 := hv1.frozen)
    exact ⟨hk2, hkb2, ⟨_, hv2, (by rw [peakCells_snoc, List.length_append]; exact hr2)⟩, hb2 _ _ hB (Nat.le_refl _) (by omega), Nat.le_trans h5 hk2.size⟩
  case done =>
    rintro D W hD ⟨⟨v, hvb, hrow, _⟩, hB, h5⟩ hK
    have hc := hvb.cell
    gi_wp2
    refine ⟨by simp, .inl ⟨_, _, rfl, run_takeDeferred hK, ?_⟩⟩
    obtain ⟨a', b', cap', rfl, hia⟩ := owns_peaks rfl (ownsRow_putObj hrow (.deferred none) hK rfl)
    exact ⟨_, results_tmp rfl _ _ _, a', b', cap', by show Ending.returned (.slice a' (powersL xs xs.length).length cap') = _; rw [powersL_length], hia, Ext.of (Below.trans hB (belowK_b (w := W5) (by omega) W D _ _ hD hK rfl rfl))⟩

theorem collect_slices (xs : List Int) (a : Option Addr) (b off cap Bl : Nat) (w : World) (hlen : xs.length ≤ 10000) (hv : ∀ i, i < xs.length → 0 ≤ xs.getD i 0 ∧ xs.getD i 0 ≤ 100000) (hne : xs ≠ []) (bL : Boxed w Bl 26 (.slice a xs.length cap)) (H : IntsAt w a b off xs) :
    Calls Try.prog 28 #[.func (.func 52) #[] #[.pointer (some ⟨Bl, 0, none⟩)]] w fun r w' => ∃ a' b' cap', r = .returned (.slice a' xs.length cap') ∧ PeaksAt w' a' b' (powersL xs xs.length) ∧ Ext w w' := by
  go_enter Try.func28, Try.ntmps28
  go_wp2_with fail
  refine (appendSeq_slices xs a b off cap Bl w hlen hv hne bL H).mono ?_
  rintro e w1 ⟨a', b', cap', rfl, hi, hx1⟩
  go_wp2
  go_ret
  exact ⟨a', b', cap', rfl, hi, hx1⟩
end Go.Proofs.Ytencdgmcpnbfcaa
