/- curve: Highest, and the list of powers. -/
import Derived.Test.YtencdgmcpnbfcaaPeakC
namespace Go.Proofs.Ytencdgmcpnbfcaa
open Go.RowKit Go.Shelf
set_option maxHeartbeats 2000000
set_option maxRecDepth 100000

theorem curveL_length (f : List (List PCell)) (n : Nat) : (curveL f n).length = n := by simp [curveL]
theorem curveL_get (f : List (List PCell)) (n i : Nat) (h : i < n) : (curveL f n).getD i 0 = fieldCur f i := by
  simp [curveL, List.getD_eq_getElem?_getD, h]
theorem curveL_vals (f : List (List PCell)) (n : Nat) (hl : f.length ≤ 6) : ∀ i, i < (curveL f n).length → 0 ≤ (curveL f n).getD i 0 ∧ (curveL f n).getD i 0 ≤ 100000 := by
  intro i h
  rw [curveL_length] at h
  rw [curveL_get f n i h]
  have := fieldCur_bound f i
  omega
/-- The powers of a field. -/
def fieldPowers (f : List (List PCell)) (n : Nat) : List PPeak := powersL (curveL f n) n

theorem Highest_curve (f : List (List PCell)) (n : Nat) (hn : (n : Int) = endL f) (a : Option Addr) (b off cap : Nat) (w : World) (ok : FieldOk' f) (H : FieldAt w a b off f) :
    Calls Try.prog 8 #[.slice a f.length cap] w fun r w' => r = .returned (.tuple #[.int .i64 (hiL (fieldPowers f (n + 1))).1, .int .i64 (hiL (fieldPowers f (n + 1))).2, .int .i64 0]) ∧ Ext w w' := by
  have hb := endL_bound ok
  have hl6 := ok.2.1
  have Hn := Lib.hid hn
  have hn2 : n ≤ 1000 := by omega
  clear hn hb
  go_enter Try.func8, Try.ntmps8
  go_wp2_with fail
  refine (Curve_curve f a b off cap _ ok H).mono ?_
  rintro e w1 ⟨g, n', hn', rfl, hi, hx1⟩
  obtain rfl : n' = n := by have := Hn.out; omega
  clear hn'
  go_wp2_with fail
  have hh := highest_curve (curveL f (n' + 1)) (some ⟨g, 0, none⟩) g 0 (n' + 1) w1 (by rw [curveL_length]; omega) (curveL_vals f (n' + 1) (by omega)) (by intro e; have := curveL_length f (n' + 1); rw [e] at this; simp at this) hi
  simp only [curveL_length] at hh
  refine hh.mono ?_
  rw [show powersL (curveL f (n' + 1)) (n' + 1) = fieldPowers f (n' + 1) from rfl]
  obtain ⟨o, ho⟩ : ∃ o, hiL (fieldPowers f (n' + 1)) = o := ⟨_, rfl⟩
  have Ho := Lib.hid ho
  rw [ho]
  clear ho
  obtain ⟨o1, o2⟩ := o
  dsimp only
  rintro e w2 ⟨rfl, hx2⟩
  go_wp2_with fail
  go_quiet (fail)
  go_wp2
  refine bodyPost_ret (results_tmp3 rfl _ _ _) rfl ?_
  exact ⟨by rw [Ho.out]; rfl, ((hx1.trans hx2).trans ((Ext.refl _).alloc _)).drewN _⟩

/-- The slice reads as these peaks, two cells each. -/
structure PeaksAt (w : World) (a : Option Addr) (b : Nat) (ps : List PPeak) : Prop where
  addr : ps ≠ [] → a = some ⟨b, 0, none⟩
  lt : ps ≠ [] → b < w.heap.size
  c0 : ∀ i, i < ps.length → w.cell? ⟨b, i * 2, none⟩ = some (.int .i64 (ps.getD i (0, 0)).1)
  c1 : ∀ i, i < ps.length → w.cell? ⟨b, i * 2 + 1, none⟩ = some (.int .i64 (ps.getD i (0, 0)).2)
def peakCells (ps : List PPeak) : List Value := ps.flatMap fun p => [.int .i64 p.1, .int .i64 p.2]
theorem peakCells_length (ps : List PPeak) : (peakCells ps).length = ps.length * 2 := by
  induction ps with
  | nil => rfl
  | cons p ps ih => simp [peakCells] at ih ⊢; omega
theorem peakCells_snoc (ps : List PPeak) (p : PPeak) : peakCells (ps ++ [p]) = peakCells ps ++ [.int .i64 p.1, .int .i64 p.2] := by simp [peakCells]
theorem peakCells_get (ps : List PPeak) (i : Nat) (h : i < ps.length) : (peakCells ps)[i * 2]? = some (.int .i64 (ps.getD i (0, 0)).1) ∧ (peakCells ps)[i * 2 + 1]? = some (.int .i64 (ps.getD i (0, 0)).2) := by
  induction ps generalizing i with
  | nil => simp at h
  | cons p ps ih =>
    cases i with
    | zero => simp [peakCells]
    | succ i =>
      have := ih i (by simpa using h)
      have e1 : peakCells (p :: ps) = .int .i64 p.1 :: .int .i64 p.2 :: peakCells ps := by simp [peakCells]
      rw [e1, show (i + 1) * 2 = i * 2 + 1 + 1 by omega]
      simpa using this
theorem owns_peaks {w : World} {base : Nat} {e : TypeId} {v : Value} {n : Nat} {ps : List PPeak} (hn : n = ps.length) (h : w.ownsRow base e 2 v n (peakCells ps)) :
    ∃ a b cap, v = .slice a ps.length cap ∧ PeaksAt w a b ps := by
  subst hn
  rcases h.2 with ⟨rfl, h0⟩ | ⟨g, cap, cur, rfl, hg, hh, hle, hml, hsz, htk⟩
  · have : ps = [] := by simpa using h0
    subst this
    exact ⟨none, 0, 0, rfl, ⟨fun h => absurd rfl h, fun h => absurd rfl h, fun i hi => by simp at hi, fun i hi => by simp at hi⟩⟩
  · have hget : ∀ j u, j < ps.length * 2 → (peakCells ps)[j]? = some u → w.cell? ⟨g, j, none⟩ = some u := by
      intro j u hj hu
      rw [← htk, List.getElem?_take_of_lt hj] at hu
      simp [World.cell?, hh]
      simpa using hu
    exact ⟨some ⟨g, 0, none⟩, g, cap, rfl, ⟨fun _ => rfl, fun _ => (Array.getElem?_eq_some_iff.1 hh).1, fun i hi => hget _ _ (by omega) (peakCells_get ps i hi).1, fun i hi => hget _ _ (by omega) (peakCells_get ps i hi).2⟩⟩
theorem PeaksAt.mono {w w' : World} {a : Option Addr} {b : Nat} {ps : List PPeak} (h : PeaksAt w a b ps) (e : Ext w w') : PeaksAt w' a b ps :=
  ⟨h.addr, fun hx => Nat.lt_of_lt_of_le (h.lt hx) e.size, fun i hi => by
    rw [e.cell (p := ⟨b, i * 2, none⟩) (h.lt (by rintro rfl; simp at hi))]; exact h.c0 i hi, fun i hi => by
    rw [e.cell (p := ⟨b, i * 2 + 1, none⟩) (h.lt (by rintro rfl; simp at hi))]; exact h.c1 i hi⟩
theorem szPeak : ∀ W : World, (sizeOf 63).run Try.prog W = .ok 2 W := fun _ => by kernel_rfl
theorem infoPeak : (Try.prog.info? 63).map (fun i => (i.zero, i.size, i.bytes)) = some (some (.agg #[.int .i64 0, .int .i64 0]), 2, 16) := by kernel_rfl
theorem PeaksAt.idx {w : World} {a : Option Addr} {b : Nat} {ps : List PPeak} (h : PeaksAt w a b ps) (cap : Nat) (k : Nat) (W : World) (hk : k < ps.length) :
    (Instr.indexAt 69 (.slice a ps.length cap) (.int .i64 (k : Int))).run Try.prog W = .ok (.pointer (some ⟨b, k * 2, none⟩)) W := by
  have := idx_run Try.underlying69 szPeak (off := 0) (n := ps.length) (fun hn => h.addr (by rintro rfl; exact hn rfl)) cap k W hk
  rwa [Nat.zero_add] at this
end Go.Proofs.Ytencdgmcpnbfcaa
