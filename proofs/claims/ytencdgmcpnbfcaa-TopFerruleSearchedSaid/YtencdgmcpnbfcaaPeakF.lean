/- curve: the peaks of a field. -/
import Derived.Test.YtencdgmcpnbfcaaPeakE
import Derived.BigQuiet
namespace Go.Proofs.Ytencdgmcpnbfcaa
open Go.RowKit
set_option maxHeartbeats 2000000
set_option maxRecDepth 100000

/-- The power of entry i. -/
def pw (ps : List PPeak) (i : Nat) : Int := (ps.getD i (0, 0)).2
/-- From i to t the powers are equal, and behind t they fall, or the table ends. -/
def Span (ps : List PPeak) (i t : Nat) : Prop := i ≤ t ∧ t < ps.length ∧ (∀ s, i ≤ s → s ≤ t → pw ps s = pw ps i) ∧ (t + 1 = ps.length ∨ pw ps (t + 1) < pw ps i)
def CurPeak (ps : List PPeak) (i : Nat) : Prop := pw ps i ≠ 0 ∧ (i = 0 ∨ pw ps (i - 1) < pw ps i) ∧ ∃ t, Span ps i t
open Classical in
noncomputable def curPeakB (ps : List PPeak) (i : Nat) : Bool := decide (CurPeak ps i)
theorem span_only {ps : List PPeak} {i t : Nat} (h1 : i ≤ t) (h2 : t < ps.length) (h3 : ∀ s, i ≤ s → s ≤ t → pw ps s = pw ps i) (h4 : t + 1 = ps.length ∨ pw ps (t + 1) ≠ pw ps i) :
    (∃ t', Span ps i t') ↔ (t + 1 = ps.length ∨ pw ps (t + 1) < pw ps i) := by
  constructor
  · rintro ⟨t', a1, a2, a3, a4⟩
    have : t' = t := by
      rcases Nat.lt_trichotomy t' t with h | h | h
      · have := h3 (t' + 1) (by omega) (by omega)
        rcases a4 with a4 | a4 <;> omega
      · exact h
      · have := a3 (t + 1) (by omega) (by omega)
        rcases h4 with h4 | h4 <;> omega
    subst this
    exact a4
  · intro h
    exact ⟨t, h1, h2, h3, h⟩
open Classical in
theorem curPeak_no {ps : List PPeak} {i : Nat} (h : ¬ CurPeak ps i) : curPeakB ps i = false := decide_eq_false h
open Classical in
theorem curPeak_is {ps : List PPeak} {i : Nat} (h : CurPeak ps i) : curPeakB ps i = true := decide_eq_true h
theorem curPeak_no1 {ps : List PPeak} {i : Nat} (h : pw ps i = 0) : curPeakB ps i = false := curPeak_no fun hc => hc.1 h
theorem curPeak_no2 {ps : List PPeak} {i : Nat} (h : i ≠ 0) (h2 : pw ps i ≤ pw ps (i - 1)) : curPeakB ps i = false := curPeak_no fun hc => by have := hc.2.1; omega
theorem curPeak_yes {ps : List PPeak} {i t : Nat} (h0 : pw ps i ≠ 0) (hp : i = 0 ∨ pw ps (i - 1) < pw ps i) (h1 : i ≤ t) (h2 : t < ps.length) (h3 : ∀ s, i ≤ s → s ≤ t → pw ps s = pw ps i) (h4 : t + 1 = ps.length ∨ pw ps (t + 1) < pw ps i) : curPeakB ps i = true :=
  curPeak_is ⟨h0, hp, t, h1, h2, h3, h4⟩
theorem curPeak_no3 {ps : List PPeak} {i t : Nat} (h1 : i ≤ t) (h2 : t < ps.length) (h3 : ∀ s, i ≤ s → s ≤ t → pw ps s = pw ps i) (h5 : t + 1 < ps.length) (h4 : pw ps i < pw ps (t + 1)) : curPeakB ps i = false := by
  refine curPeak_no fun ⟨_, _, h⟩ => ?_
  have := (span_only h1 h2 h3 (.inr (by omega))).1 h
  omega

/-- The peaks of a field whose curve has n entries. -/
noncomputable def peaksOf (f : List (List PCell)) (n : Nat) : List Nat := (List.range n).filter (curPeakB (fieldPowers f n))

/-- It returns a list of integers, and no error. -/
def IntsOut (xs : List Int) (r : Ending) (w' : World) : Prop := ∃ a' b' cap', r = .returned (.tuple #[.slice a' xs.length cap', .int .i64 0]) ∧ IntsAt w' a' b' 0 xs
theorem intsOut {xs : List Int} {w' : World} {a' : Option Addr} {b' : Nat} (cap' : Nat) (h : IntsAt w' a' b' 0 xs) : IntsOut xs (.returned (.tuple #[.slice a' xs.length cap', .int .i64 0])) w' := ⟨a', b', cap', rfl, h⟩

theorem Peaks_curve (f : List (List PCell)) (n : Nat) (hn : (n : Int) = endL f) (a : Option Addr) (b off cap : Nat) (w : World) (ok : FieldOk' f) (H : FieldAt w a b off f) :
    Calls Try.prog 10 #[.slice a f.length cap] w fun r w' => IntsOut (natInts (peaksOf f (n + 1))) r w' ∧ Ext w w' := by
  have h0 := Lib.hid (checkFieldL_ok ok)
  have hfo : FieldOk f := ⟨by have := ok.2.1; omega, fun cs hcs => ⟨by have := (ok.2.2 cs hcs).2.1; omega, fun c hc => by have := ((ok.2.2 cs hcs).2.2 c hc).tab.eight; omega⟩⟩
  have hb := endL_bound ok
  have hl6 := ok.2.1
  have Hn := Lib.hid hn
  have hn2 : n ≤ 1000 := by omega
  clear hn hb
  go_enter Try.func10, Try.ntmps10
  go_wp2_with fail
  refine (checkField_curve f a b off cap _ hfo H).mono ?_
  rw [h0.out]
  rintro e w1 ⟨rfl, hx1⟩
  go_wp2_with fail
  refine (end_curve f a b off cap _ ok (H.mono hx1)).mono ?_
  rw [← Hn.out]
  rintro e w2 ⟨rfl, hx2⟩
  go_wp2_with fail
  refine (curve_curve f n a b off cap _ hl6 (fun cs hcs => (ok.2.2 cs hcs).2) hn2 (H.mono (hx1.trans hx2))).mono ?_
  rintro e w3 ⟨g, rfl, hi, hx3⟩
  go_wp2_with fail
  refine (powers_curve _ _ _ _).mono ?_
  rintro e w4 ⟨rfl, rfl⟩
  go_wp2_with fail
  have hc := collect_slices (curveL f (n + 1)) (some ⟨g, 0, none⟩) g 0 (n + 1) w3.heap.size (w3.alloc (.cells #[.slice (some ⟨g, 0, none⟩) (n + 1) (n + 1)] 26)) (by rw [curveL_length]; omega) (curveL_vals f (n + 1) (by omega)) (by intro e; have := curveL_length f (n + 1); rw [e] at this; simp at this) (by rw [curveL_length]; exact Boxed.new _ _ _) (hi.mono ((Ext.refl _).alloc _))
  simp only [curveL_length] at hc
  refine hc.mono ?_
  rintro e w4 ⟨a', b', cap', rfl, hps, hx4⟩
  replace hps : PeaksAt w4 a' b' (fieldPowers f (n + 1)) := hps
  have hpl : (fieldPowers f (n + 1)).length = n + 1 := powersL_length _ _
  have hfst : ∀ i, i < n + 1 → ((fieldPowers f (n + 1)).getD i (0, 0)).1 = i := by
    intro i h
    simp [fieldPowers, powersL, List.getD_eq_getElem?_getD, h]
  generalize hgps : fieldPowers f (n + 1) = ps at *
  have Hgps := Lib.hid hgps
  clear hgps hc
  go_wp2_with fail
  go_loopw [6, 23] (fun v i wr => ∃ (k : Nat) (ys : List Nat), k ≤ n + 1 ∧ i = .int .i64 k ∧ ys.length ≤ k ∧ ys = (List.range k).filter (curPeakB ps) ∧ wr.ownsRow w4.heap.size 3 1 v ys.length ((natInts ys).map (Value.int .i64)) ∧ Ext w4 wr) (fun _ i _ => n + 1 - (intOf i).toNat)
  case atStart => exact ⟨0, [], Nat.zero_le _, rfl, Nat.zero_le _, rfl, by exact owns_nil _ _ _ _, Ext.refl _⟩
  case round =>
    obtain ⟨k, ys, hk, rfl, hyl, hys, hown, hx⟩ := hrel
    have Hys := Lib.hid hys
    clear hys
    by_cases hlt : k < n + 1
    · have hP := hps.mono hx
      have hidx := fun j W hj => PeaksAt.idx (hps) cap' j W hj
      rw [hpl] at hidx
      have i0 := fun W => hidx k W hlt
      have c0 := hP.c0 k (by omega)
      have c1 := hP.c1 k (by omega)
      rw [hfst k hlt] at c0
      have hkb : (k : Int) < (n : Int) + 1 := by omega
      by_cases hz : (ps.getD k (0, 0)).2 = 0
      · rw [hz] at c1
        have hp := Lib.hid (curPeak_no1 (ps := ps) (i := k) hz)
        clear hz
        go_wp2_with fail
        go_quiet (fail)
        go_wp2
        exact ⟨⟨k + 1, ys, hlt, by go_num, by omega, by rw [filter_snoc, hp.out]; simp [Hys.out], owns_ext hown (((Ext.refl _).alloc _).drewN _), (hx.alloc _).drewN _⟩, by simp [intOf]; omega⟩
      · have Hz := Lib.hid hz
        have Hc := Lib.hid (show pw ps k = (ps.getD k (0, 0)).2 from rfl)
        have tz : ((ps.getD k (0, 0)).2 == 0) = false := by simpa using hz
        have cm := fun h => hP.c1 (k - 1) h
        have im := fun W h => hidx (k - 1) W h
        have Hm := Lib.hid (show pw ps (k - 1) = (ps.getD (k - 1) (0, 0)).2 from rfl)
        clear hz
        generalize (ps.getD k (0, 0)).2 = c at *
        generalize (ps.getD (k - 1) (0, 0)).2 = cp at *
        by_cases hk0 : k = 0
        · have t1 : decide ((0 : Int) < (k : Int)) = false := by simp; omega
          have t2 : decide (0 < k) = false := by simp; omega
          have Hp : Hid (k = 0 ∨ pw ps (k - 1) < pw ps k) := .inl hk0
          clear cm im hk0
          go_wp2_with fail
          go_quiet (fail)
          go_wp2_with fail
          generalize hw0 : (wr.alloc (.cells #[.int .i64 (k : Int), .int .i64 c] 63)).drewN _ = w0
          have hx0 : Ext wr w0 := by rw [← hw0]; exact ((Ext.refl _).alloc _).drewN _
          have b0 : Box2 w0 wr.heap.size 63 (.int .i64 (k : Int)) (.int .i64 c) := by rw [← hw0]; exact Box2.new _ _ _ _
          clear hw0
          go_loopw [9] (fun i wx => ∃ t : Nat, k ≤ t ∧ t < n + 1 ∧ i = .int .i64 t ∧ (∀ s, k ≤ s → s ≤ t → pw ps s = pw ps k) ∧ Ext w0 wx) (fun i _ => n + 1 - (intOf i).toNat)
          case atStart => exact ⟨k, Nat.le_refl _, hlt, rfl, fun s h1 h2 => by rw [show s = k by omega], Ext.refl _⟩
          case round =>
            obtain ⟨t, ht1, ht2, rfl, hall, hxx⟩ := hrel
            have Hall := Lib.hid hall
            clear hall
            have hxr := hx0.trans hxx
            have bk := b0.ext hxx
            have bk0 := bk.c0
            have bk1 := bk.c1
            by_cases htl : t + 1 < n + 1
            · have cn := (hP.mono hxr).c1 (t + 1) (by omega)
              have in1 := fun W => hidx (t + 1) W htl
              have Hq := Lib.hid (show pw ps (t + 1) = (ps.getD (t + 1) (0, 0)).2 from rfl)
              simp only [Int.natCast_add, Int.cast_ofNat_Int] at in1
              generalize (ps.getD (t + 1) (0, 0)).2 = q at *
              have u1 : decide ((t : Int) + 1 < (n : Int) + 1) = true := by simp; omega
              have u1' : (t : Int) + 1 < (n : Int) + 1 := by omega
              have u2 : ((t : Int) + 1 == (n : Int) + 1) = false := by simp; omega
              by_cases hqc : q = c
              · have u3 : (q == c) = true := by simpa using hqc
                have hnext : Hid (∀ s, k ≤ s → s ≤ t + 1 → pw ps s = pw ps k) := fun s h1 h2 => by
                  by_cases e : s = t + 1
                  · rw [e, Hq.out, Hc.out, hqc]
                  · exact Hall.out s h1 (by omega)
                clear hqc
                go_wp2_with fail
                go_quiet (fail)
                go_wp2
                exact ⟨⟨t + 1, by omega, htl, by go_num, hnext.out, hxx.drewN _⟩, by simp [intOf]; omega⟩
              · have u3 : (q == c) = false := by simpa using hqc
                by_cases hlow : q < c
                · have u4 : decide (q < c) = true := by simpa using hlow
                  have hpk := Lib.hid (curPeak_yes (ps := ps) (i := k) (t := t) (by rw [Hc.out]; exact Hz.out) Hp.out ht1 (by omega) Hall.out (.inr (by rw [Hq.out, Hc.out]; exact hlow)))
                  clear hqc hlow
                  go_wp2_with fail
                  go_quiet (fail)
                  go_wp2_with fail
                  go_quiet (fail)
                  go_wp2_with (at_builtin; refine append_new _ rfl _ _ 26 rfl w4.heap.size 3 (.int .i64 0) 1 8 Try.underlying26 infoInt rfl (by decide) _ _ _ rfl (owns_ext hown (hxr.drewN _)) 1 rfl rfl (by simp [Value.oneCell']) (by simp [maxLen]; omega) (by omega) ((hx.trans hxr).drewN _).size ?_; intro v' w3' hown' hb3 hsz3)
                  exact ⟨⟨k + 1, ys ++ [k], hlt, by go_num, by simp; omega, by rw [filter_snoc, if_pos hpk.out, ← Hys.out], by rw [natInts_snoc, List.length_append]; exact hown', hb3 _ _ ((hx.trans hxr).drewN _) (Nat.le_refl _)⟩, by simp [intOf]; omega⟩
                · have u4 : decide (q < c) = false := by simpa using hlow
                  have hpk := Lib.hid (curPeak_no3 (ps := ps) (i := k) (t := t) ht1 (by omega) Hall.out (by omega) (by rw [Hq.out, Hc.out]; omega))
                  clear hqc hlow
                  go_wp2_with fail
                  go_quiet (fail)
                  go_wp2_with fail
                  go_quiet (fail)
                  go_wp2
                  exact ⟨⟨k + 1, ys, hlt, by go_num, by omega, by rw [filter_snoc, hpk.out]; simp [Hys.out], owns_ext hown (hxr.drewN _), (hx.trans hxr).drewN _⟩, by simp [intOf]; omega⟩
            · have u1 : decide ((t : Int) + 1 < (n : Int) + 1) = false := by simp; omega
              have u2 : ((t : Int) + 1 == (n : Int) + 1) = true := by simp; omega
              have hpk := Lib.hid (curPeak_yes (ps := ps) (i := k) (t := t) (by rw [Hc.out]; exact Hz.out) Hp.out ht1 (by omega) Hall.out (.inl (by omega)))
              have htn : t = n := by omega
              clear htl
              go_wp2_with fail
              go_quiet (fail)
              go_wp2_with fail
              go_quiet (fail)
              go_wp2_with (at_builtin; refine append_new _ rfl _ _ 26 rfl w4.heap.size 3 (.int .i64 0) 1 8 Try.underlying26 infoInt rfl (by decide) _ _ _ rfl (owns_ext hown (hxr.drewN _)) 1 rfl rfl (by simp [Value.oneCell']) (by simp [maxLen]; omega) (by omega) ((hx.trans hxr).drewN _).size ?_; intro v' w3' hown' hb3 hsz3)
              exact ⟨⟨k + 1, ys ++ [k], hlt, by go_num, by simp; omega, by rw [filter_snoc, if_pos hpk.out, ← Hys.out], by rw [natInts_snoc, List.length_append]; exact hown', hb3 _ _ ((hx.trans hxr).drewN _) (Nat.le_refl _)⟩, by simp [intOf]; omega⟩

        · have t1 : decide ((0 : Int) < (k : Int)) = true := by simp; omega
          have t2 : decide (0 < k) = true := by simp; omega
          have cm := cm (by omega)
          have im := fun W => im W (by omega)
          rw [show ((k - 1 : Nat) : Int) = (k : Int) - 1 by omega] at im
          have hpne : ps ≠ [] := by intro e; rw [e] at hpl; simp at hpl
          have cm2 := keep_ext ((Ext.refl wr).alloc (.cells #[.int .i64 (k : Int), .int .i64 c] 63)) (hP.lt hpne) cm
          by_cases hge : c ≤ cp
          · have hp := Lib.hid (curPeak_no2 (ps := ps) (i := k) hk0 (by rw [Hc.out, Hm.out]; exact hge))
            have t3 : decide (c ≤ cp) = true := by simpa using hge
            clear hk0 hge
            go_wp2_with fail
            go_quiet (fail)
            go_wp2
            exact ⟨⟨k + 1, ys, hlt, by go_num, by omega, by rw [filter_snoc, hp.out]; simp [Hys.out], owns_ext hown (((Ext.refl _).alloc _).drewN _), (hx.alloc _).drewN _⟩, by simp [intOf]; omega⟩
          · have Hp : Hid (k = 0 ∨ pw ps (k - 1) < pw ps k) := .inr (by rw [Hc.out, Hm.out]; omega)
            have t3 : decide (c ≤ cp) = false := by simpa using hge
            clear hk0 hge
            go_wp2_with fail
            go_quiet (fail)
            go_wp2_with fail
            generalize hw0 : (wr.alloc (.cells #[.int .i64 (k : Int), .int .i64 c] 63)).drewN _ = w0
            have hx0 : Ext wr w0 := by rw [← hw0]; exact ((Ext.refl _).alloc _).drewN _
            have b0 : Box2 w0 wr.heap.size 63 (.int .i64 (k : Int)) (.int .i64 c) := by rw [← hw0]; exact Box2.new _ _ _ _
            clear hw0
            go_loopw [9] (fun i wx => ∃ t : Nat, k ≤ t ∧ t < n + 1 ∧ i = .int .i64 t ∧ (∀ s, k ≤ s → s ≤ t → pw ps s = pw ps k) ∧ Ext w0 wx) (fun i _ => n + 1 - (intOf i).toNat)
            case atStart => exact ⟨k, Nat.le_refl _, hlt, rfl, fun s h1 h2 => by rw [show s = k by omega], Ext.refl _⟩
            case round =>
              obtain ⟨t, ht1, ht2, rfl, hall, hxx⟩ := hrel
              have Hall := Lib.hid hall
              clear hall
              have hxr := hx0.trans hxx
              have bk := b0.ext hxx
              have bk0 := bk.c0
              have bk1 := bk.c1
              by_cases htl : t + 1 < n + 1
              · have cn := (hP.mono hxr).c1 (t + 1) (by omega)
                have in1 := fun W => hidx (t + 1) W htl
                have Hq := Lib.hid (show pw ps (t + 1) = (ps.getD (t + 1) (0, 0)).2 from rfl)
                simp only [Int.natCast_add, Int.cast_ofNat_Int] at in1
                generalize (ps.getD (t + 1) (0, 0)).2 = q at *
                have u1 : decide ((t : Int) + 1 < (n : Int) + 1) = true := by simp; omega
                have u1' : (t : Int) + 1 < (n : Int) + 1 := by omega
                have u2 : ((t : Int) + 1 == (n : Int) + 1) = false := by simp; omega
                by_cases hqc : q = c
                · have u3 : (q == c) = true := by simpa using hqc
                  have hnext : Hid (∀ s, k ≤ s → s ≤ t + 1 → pw ps s = pw ps k) := fun s h1 h2 => by
                    by_cases e : s = t + 1
                    · rw [e, Hq.out, Hc.out, hqc]
                    · exact Hall.out s h1 (by omega)
                  clear hqc
                  go_wp2_with fail
                  go_quiet (fail)
                  go_wp2
                  exact ⟨⟨t + 1, by omega, htl, by go_num, hnext.out, hxx.drewN _⟩, by simp [intOf]; omega⟩
                · have u3 : (q == c) = false := by simpa using hqc
                  by_cases hlow : q < c
                  · have u4 : decide (q < c) = true := by simpa using hlow
                    have hpk := Lib.hid (curPeak_yes (ps := ps) (i := k) (t := t) (by rw [Hc.out]; exact Hz.out) Hp.out ht1 (by omega) Hall.out (.inr (by rw [Hq.out, Hc.out]; exact hlow)))
                    clear hqc hlow
                    go_wp2_with fail
                    go_quiet (fail)
                    go_wp2_with fail
                    go_quiet (fail)
                    go_wp2_with (at_builtin; refine append_new _ rfl _ _ 26 rfl w4.heap.size 3 (.int .i64 0) 1 8 Try.underlying26 infoInt rfl (by decide) _ _ _ rfl (owns_ext hown (hxr.drewN _)) 1 rfl rfl (by simp [Value.oneCell']) (by simp [maxLen]; omega) (by omega) ((hx.trans hxr).drewN _).size ?_; intro v' w3' hown' hb3 hsz3)
                    exact ⟨⟨k + 1, ys ++ [k], hlt, by go_num, by simp; omega, by rw [filter_snoc, if_pos hpk.out, ← Hys.out], by rw [natInts_snoc, List.length_append]; exact hown', hb3 _ _ ((hx.trans hxr).drewN _) (Nat.le_refl _)⟩, by simp [intOf]; omega⟩
                  · have u4 : decide (q < c) = false := by simpa using hlow
                    have hpk := Lib.hid (curPeak_no3 (ps := ps) (i := k) (t := t) ht1 (by omega) Hall.out (by omega) (by rw [Hq.out, Hc.out]; omega))
                    clear hqc hlow
                    go_wp2_with fail
                    go_quiet (fail)
                    go_wp2_with fail
                    go_quiet (fail)
                    go_wp2
                    exact ⟨⟨k + 1, ys, hlt, by go_num, by omega, by rw [filter_snoc, hpk.out]; simp [Hys.out], owns_ext hown (hxr.drewN _), (hx.trans hxr).drewN _⟩, by simp [intOf]; omega⟩
              · have u1 : decide ((t : Int) + 1 < (n : Int) + 1) = false := by simp; omega
                have u2 : ((t : Int) + 1 == (n : Int) + 1) = true := by simp; omega
                have hpk := Lib.hid (curPeak_yes (ps := ps) (i := k) (t := t) (by rw [Hc.out]; exact Hz.out) Hp.out ht1 (by omega) Hall.out (.inl (by omega)))
                have htn : t = n := by omega
                clear htl
                go_wp2_with fail
                go_quiet (fail)
                go_wp2_with fail
                go_quiet (fail)
                go_wp2_with (at_builtin; refine append_new _ rfl _ _ 26 rfl w4.heap.size 3 (.int .i64 0) 1 8 Try.underlying26 infoInt rfl (by decide) _ _ _ rfl (owns_ext hown (hxr.drewN _)) 1 rfl rfl (by simp [Value.oneCell']) (by simp [maxLen]; omega) (by omega) ((hx.trans hxr).drewN _).size ?_; intro v' w3' hown' hb3 hsz3)
                exact ⟨⟨k + 1, ys ++ [k], hlt, by go_num, by simp; omega, by rw [filter_snoc, if_pos hpk.out, ← Hys.out], by rw [natInts_snoc, List.length_append]; exact hown', hb3 _ _ ((hx.trans hxr).drewN _) (Nat.le_refl _)⟩, by simp [intOf]; omega⟩

    · have hkf : ¬ ((k : Int) < (n : Int) + 1) := by omega
      obtain rfl : k = n + 1 := by omega
      have hown2 := hown
      have hpo : ys = peaksOf f (n + 1) := by rw [Hys.out, peaksOf, Hgps.out]
      rw [← natInts_length ys, hpo] at hown2
      clear hpo
      obtain ⟨a2, b2, cap2, hv, hi2, _⟩ := owns_ints rfl hown2
      subst hv
      go_wp2
      go_ret2
      exact ⟨intsOut cap2 hi2, ((((hx1.trans hx2).trans hx3).trans ((Ext.refl _).alloc _)).trans hx4).trans hx⟩
end Go.Proofs.Ytencdgmcpnbfcaa
