/- inverter: the peaks of a table, and whether a table is one hill. -/
import Derived.Test.YtencdgmcpnbfcaaInvA
namespace Go.Proofs.Ytencdgmcpnbfcaa
open Go.RowKit
set_option maxHeartbeats 2000000
set_option maxRecDepth 100000

def peakB (xs : List Int) (i : Nat) : Bool :=
  decide ((i = 0 ∨ xs.getD (i - 1) 0 ≤ xs.getD i 0) ∧ (i + 1 = xs.length ∨ xs.getD (i + 1) 0 ≤ xs.getD i 0))
theorem filter_snoc (p : Nat → Bool) (k : Nat) : (List.range (k + 1)).filter p = (List.range k).filter p ++ (if p k = true then [k] else []) := by
  rw [List.range_succ, List.filter_append]
  by_cases h : p k = true <;> simp [h]
def natInts (ys : List Nat) : List Int := ys.map (fun i : Nat => (i : Int))
theorem natInts_snoc (ys : List Nat) (k : Nat) : (natInts (ys ++ [k])).map (Value.int .i64) = (natInts ys).map (Value.int .i64) ++ [.int .i64 (k : Int)] := by simp [natInts]
theorem natInts_length (ys : List Nat) : (natInts ys).length = ys.length := by simp [natInts]

theorem peaks_inverter (xs : List Int) (a : Option Addr) (b off cap : Nat) (w : World) (ok : VTab xs) (H : IntsAt w a b off xs) :
    Calls Try.prog 11 #[.slice a xs.length cap] w fun r w' => ∃ a' b' cap', r = .returned (.tuple #[.slice a' ((List.range xs.length).filter (peakB xs)).length cap', .int .i64 0]) ∧ IntsAt w' a' b' 0 (natInts ((List.range xs.length).filter (peakB xs))) ∧ Ext w w' := by
  have ho := ok.one
  have h2 := ok.most
  go_enter Try.func11, Try.ntmps11
  go_wp2_with fail
  refine (checkTable_inverter xs a b off cap _ ok H).mono ?_
  rintro e w1 ⟨rfl, hx1⟩
  go_wp2_with fail
  go_loopw [5, 15] (fun v i wr => ∃ (k : Nat) (ys : List Nat), k ≤ xs.length ∧ i = .int .i64 k ∧ ys.length ≤ k ∧ ys = (List.range k).filter (peakB xs) ∧ wr.ownsRow w1.heap.size 3 1 v ys.length ((natInts ys).map (Value.int .i64)) ∧ Ext w1 wr) (fun _ i _ => xs.length - (intOf i).toNat)
  case atStart => exact ⟨0, [], Nat.zero_le _, rfl, Nat.zero_le _, rfl, by exact owns_nil _ _ _ _, Ext.refl _⟩
  case round =>
    obtain ⟨k, ys, hk, rfl, hyl, hys, hown, hx⟩ := hrel
    have Hys := Lib.hid hys
    clear hys
    have hidx := IntsAt.idx Try.underlying26 szInt H cap k
    by_cases hlt : k < xs.length
    · have hH := H.mono (hx1.trans hx)
      have c1 := hH.cell k hlt
      have HP := Lib.hid (show peakB xs k = decide ((k = 0 ∨ xs.getD (k - 1) 0 ≤ xs.getD k 0) ∧ (k + 1 = xs.length ∨ xs.getD (k + 1) 0 ≤ xs.getD k 0)) from rfl)
      have c0 := fun h => hH.cell (k - 1) h
      have c2 := fun h => hH.cell (k + 1) h
      have hsn := Lib.hid (filter_snoc (peakB xs) k)
      generalize xs.getD k 0 = p at *
      generalize xs.getD (k - 1) 0 = pl at *
      generalize xs.getD (k + 1) 0 = pr at *
      have fin1 : ∀ (v' : Value) (w3 : World), peakB xs k = true → w3.ownsRow w1.heap.size 3 1 v' (ys.length + 1) ((natInts ys).map (Value.int .i64) ++ [.int .i64 (k : Int)]) → Ext w1 w3 → ∃ (k' : Nat) (zs : List Nat), k' ≤ xs.length ∧ Value.int .i64 ((k : Int) + 1) = .int .i64 k' ∧ zs.length ≤ k' ∧ zs = (List.range k').filter (peakB xs) ∧ w3.ownsRow w1.heap.size 3 1 v' zs.length ((natInts zs).map (Value.int .i64)) ∧ Ext w1 w3 := by
        intro v' w3 hb ho' hx'
        refine ⟨k + 1, ys ++ [k], hlt, by go_num, by simp; omega, by rw [hsn.out, if_pos hb, ← Hys.out], ?_, hx'⟩
        rw [natInts_snoc, List.length_append]; exact ho'
      have fin0 : ∀ (v : Value), peakB xs k = false → wr.ownsRow w1.heap.size 3 1 v ys.length ((natInts ys).map (Value.int .i64)) → ∃ (k' : Nat) (zs : List Nat), k' ≤ xs.length ∧ Value.int .i64 ((k : Int) + 1) = .int .i64 k' ∧ zs.length ≤ k' ∧ zs = (List.range k').filter (peakB xs) ∧ wr.ownsRow w1.heap.size 3 1 v zs.length ((natInts zs).map (Value.int .i64)) ∧ Ext w1 wr := by
        intro v hb ho'
        exact ⟨k + 1, ys, hlt, by go_num, by omega, by rw [hsn.out, hb]; simp [Hys.out], ho', hx⟩
      have Fin1 := Lib.hid fin1
      have Fin0 := Lib.hid fin0
      clear fin1 fin0 hsn Hys
      have hm : ∀ h : k - 1 < xs.length, _ := fun h W => IntsAt.idx Try.underlying26 szInt H cap (k - 1) W h
      have hp1 : ∀ h : k + 1 < xs.length, _ := fun h W => IntsAt.idx Try.underlying26 szInt H cap (k + 1) W h
      simp only [Int.natCast_add, Int.cast_ofNat_Int] at hp1
      have HK := Lib.hid (show k = k from rfl)
      by_cases hk0 : k = 0
      · have t0 : ((k : Int) == 0) = true := by simp [hk0]
        clear c0 hm
        by_cases hl1 : k + 1 = xs.length
        · have Hp : Hid (peakB xs k = true) := HP.out.trans (decide_eq_true ⟨.inl hk0, .inl hl1⟩)
          have t1 : ((k : Int) + 1 == (xs.length : Int)) = true := by simp; omega
          clear c2 HP hp1 hl1 hk0
          go_wp2_with (at_builtin; refine append_new wr rfl _ _ 26 rfl w1.heap.size 3 (.int .i64 0) 1 8 Try.underlying26 infoInt rfl (by decide) _ _ _ rfl hown 1 rfl rfl (by simp [Value.oneCell']) (by simp [maxLen]; omega) (by omega) hx.size ?_; intro v' w3 hown' hb3 hsz3)
          exact ⟨Fin1.out _ _ Hp.out hown' (hb3 _ _ hx (Nat.le_refl _)), by simp [intOf]; omega⟩
        · have t1 : ((k : Int) + 1 == (xs.length : Int)) = false := by simp; omega
          have c2 := c2 (by omega)
          have hp1 := hp1 (by omega)
          by_cases t2 : pr ≤ p
          · have Hp : Hid (peakB xs k = true) := by rw [Hid, HP.out]; simp [hk0, t2]
            clear HP hl1 hk0
            go_wp2_with (at_builtin; refine append_new wr rfl _ _ 26 rfl w1.heap.size 3 (.int .i64 0) 1 8 Try.underlying26 infoInt rfl (by decide) _ _ _ rfl hown 1 rfl rfl (by simp [Value.oneCell']) (by simp [maxLen]; omega) (by omega) hx.size ?_; intro v' w3 hown' hb3 hsz3)
            exact ⟨Fin1.out _ _ Hp.out hown' (hb3 _ _ hx (Nat.le_refl _)), by simp [intOf]; omega⟩
          · have Hp : Hid (peakB xs k = false) := by rw [Hid, HP.out]; simp [hk0, t2]; omega
            clear HP hl1 hk0
            go_wp2_with (at_builtin; refine append_new wr rfl _ _ 26 rfl w1.heap.size 3 (.int .i64 0) 1 8 Try.underlying26 infoInt rfl (by decide) _ _ _ rfl hown 1 rfl rfl (by simp [Value.oneCell']) (by simp [maxLen]; omega) (by omega) hx.size ?_; intro v' w3 hown' hb3 hsz3)
            exact ⟨Fin0.out _ Hp.out hown, by simp [intOf]; omega⟩
      · have t0 : ((k : Int) == 0) = false := by simp; omega
        have c0 := c0 (by omega)
        have hm := hm (by omega)
        rw [show ((k - 1 : Nat) : Int) = (k : Int) - 1 by omega] at hm
        by_cases t3 : pl ≤ p
        · by_cases hl1 : k + 1 = xs.length
          · have Hp : Hid (peakB xs k = true) := by rw [Hid, HP.out]; simp [hl1, t3]
            have t1 : ((k : Int) + 1 == (xs.length : Int)) = true := by simp; omega
            clear c2 HP hp1 hl1 hk0
            go_wp2_with (at_builtin; refine append_new wr rfl _ _ 26 rfl w1.heap.size 3 (.int .i64 0) 1 8 Try.underlying26 infoInt rfl (by decide) _ _ _ rfl hown 1 rfl rfl (by simp [Value.oneCell']) (by simp [maxLen]; omega) (by omega) hx.size ?_; intro v' w3 hown' hb3 hsz3)
            exact ⟨Fin1.out _ _ Hp.out hown' (hb3 _ _ hx (Nat.le_refl _)), by simp [intOf]; omega⟩
          · have t1 : ((k : Int) + 1 == (xs.length : Int)) = false := by simp; omega
            have c2 := c2 (by omega)
            have hp1 := hp1 (by omega)
            by_cases t2 : pr ≤ p
            · have Hp : Hid (peakB xs k = true) := by rw [Hid, HP.out]; simp [t3, t2]
              clear HP hl1 hk0
              go_wp2_with (at_builtin; refine append_new wr rfl _ _ 26 rfl w1.heap.size 3 (.int .i64 0) 1 8 Try.underlying26 infoInt rfl (by decide) _ _ _ rfl hown 1 rfl rfl (by simp [Value.oneCell']) (by simp [maxLen]; omega) (by omega) hx.size ?_; intro v' w3 hown' hb3 hsz3)
              exact ⟨Fin1.out _ _ Hp.out hown' (hb3 _ _ hx (Nat.le_refl _)), by simp [intOf]; omega⟩
            · have Hp : Hid (peakB xs k = false) := by rw [Hid, HP.out]; simp [t2]; omega
              clear HP hl1 hk0
              go_wp2_with (at_builtin; refine append_new wr rfl _ _ 26 rfl w1.heap.size 3 (.int .i64 0) 1 8 Try.underlying26 infoInt rfl (by decide) _ _ _ rfl hown 1 rfl rfl (by simp [Value.oneCell']) (by simp [maxLen]; omega) (by omega) hx.size ?_; intro v' w3 hown' hb3 hsz3)
              exact ⟨Fin0.out _ Hp.out hown, by simp [intOf]; omega⟩
        · have Hp : Hid (peakB xs k = false) := by rw [Hid, HP.out]; simp [t3, hk0]
          clear HP hk0
          go_wp2_with (at_builtin; refine append_new wr rfl _ _ 26 rfl w1.heap.size 3 (.int .i64 0) 1 8 Try.underlying26 infoInt rfl (by decide) _ _ _ rfl hown 1 rfl rfl (by simp [Value.oneCell']) (by simp [maxLen]; omega) (by omega) hx.size ?_; intro v' w3 hown' hb3 hsz3)
          exact ⟨Fin0.out _ Hp.out hown, by simp [intOf]; omega⟩
    · obtain rfl : k = xs.length := by omega
      have hown2 := hown
      rw [← natInts_length ys, Hys.out] at hown2
      have hle : (natInts ((List.range xs.length).filter (peakB xs))).length ≤ 1000 := by rw [natInts_length, ← Hys.out]; omega
      obtain ⟨a', b', cap', hv, hi, _⟩ := owns_ints (by omega) hown2
      subst hv
      go_wp2
      go_ret2
      exact ⟨a', b', cap', by rw [natInts_length]; rfl, hi, hx1.trans hx⟩
end Go.Proofs.Ytencdgmcpnbfcaa
