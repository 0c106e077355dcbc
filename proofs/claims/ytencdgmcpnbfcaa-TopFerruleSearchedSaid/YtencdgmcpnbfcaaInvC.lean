/- inverter: whether a table is one hill. -/
import Derived.Test.YtencdgmcpnbfcaaInvB
import Derived.BigQuiet
namespace Go.Proofs.Ytencdgmcpnbfcaa
open Go.RowKit
set_option maxHeartbeats 2000000
set_option maxRecDepth 100000

/-- no two neighbours are equal, and behind a fall there is no rise -/
def HillP (xs : List Int) (n : Nat) : Prop :=
  ∀ i, i + 1 < n → xs.getD (i + 1) 0 ≠ xs.getD i 0 ∧ ∀ j, j < i → xs.getD (j + 1) 0 < xs.getD j 0 → xs.getD (i + 1) 0 < xs.getD i 0
theorem HillP.next {xs : List Int} {k : Nat} (h : HillP xs (k + 1)) (h1 : xs.getD (k + 1) 0 ≠ xs.getD k 0) (h2 : (∃ j, j < k ∧ xs.getD (j + 1) 0 < xs.getD j 0) → xs.getD (k + 1) 0 < xs.getD k 0) : HillP xs (k + 1 + 1) := by
  intro i hi
  by_cases e : i = k
  · subst e; exact ⟨h1, fun j hj hf => h2 ⟨j, hj, hf⟩⟩
  · exact h i (by omega)
def Falls (xs : List Int) (k : Nat) (fl : Bool) : Prop := ∀ j, j < k → xs.getD (j + 1) 0 < xs.getD j 0 → fl = true
def HillSays (xs : List Int) (b : Bool) : Prop := b = true → HillP xs xs.length
def SomePair (P : Bool → Prop) (r : Ending) : Prop := ∃ b, r = .returned (.tuple #[.bool b, .int .i64 0]) ∧ P b
theorem somePair {P : Bool → Prop} {b : Bool} (h : P b) : SomePair P (.returned (.tuple #[.bool b, .int .i64 0])) := ⟨b, rfl, h⟩

theorem hill_inverter (xs : List Int) (a : Option Addr) (b off cap : Nat) (w : World) (ok : VTab xs) (H : IntsAt w a b off xs) :
    Calls Try.prog 12 #[.slice a xs.length cap] w fun r w' => SomePair (HillSays xs) r ∧ Ext w w' := by
  have ho := ok.one
  have h2 := ok.most
  go_enter Try.func12, Try.ntmps12
  go_wp2_with fail
  refine (checkTable_inverter xs a b off cap _ ok H).mono ?_
  rintro e w1 ⟨rfl, hx1⟩
  go_wp2_with fail
  have hst : HillP xs (0 + 1) := fun i hi => by omega
  have hst2 : Falls xs 0 false := fun j hj => by omega
  go_loopw [5, 6] (fun f i wr => ∃ (k : Nat) (fl : Bool), k + 1 ≤ xs.length ∧ f = .bool fl ∧ i = .int .i64 ((k : Int) + 1) ∧ HillP xs (k + 1) ∧ Falls xs k fl ∧ Ext w wr) (fun _ i _ => xs.length - (intOf i).toNat)
  case atStart => exact ⟨0, false, by omega, rfl, rfl, hst, hst2, hx1⟩
  case round =>
    obtain ⟨k, fl, hk, rfl, rfl, hp, hf, hx⟩ := hrel
    have HP := Lib.hid hp
    have HF := Lib.hid hf
    clear hp hf
    by_cases hlt : k + 1 < xs.length
    · have hH := H.mono hx
      have c1 := hH.cell (k + 1) hlt
      have c0 := hH.cell k (by omega)
      have i0 := fun W => IntsAt.idx Try.underlying26 szInt H cap k W (by omega)
      have i1 := fun W => IntsAt.idx Try.underlying26 szInt H cap (k + 1) W hlt
      simp only [Int.natCast_add, Int.cast_ofNat_Int] at i1
      have hlt' : (k : Int) + 1 < (xs.length : Int) := by omega
      have Hnext := Lib.hid (fun h1 h2 => HillP.next (xs := xs) (k := k) HP.out h1 h2)
      have HF2 : Hid (∀ fl' : Bool, (fl = true → fl' = true) → (xs.getD (k + 1) 0 < xs.getD k 0 → fl' = true) → Falls xs (k + 1) fl') := by
        intro fl' ha hb j hj hfall
        by_cases e : j = k
        · rw [e] at hfall; exact hb hfall
        · exact ha (HF.out j (by omega) hfall)
      generalize xs.getD (k + 1) 0 = p at *
      generalize xs.getD k 0 = pl at *
      by_cases e1 : p = pl
      · have t1 : (p == pl) = true := by simpa using e1
        clear e1
        go_wp2_with fail
        go_quiet (fail)
        go_wp2
        go_ret2
        exact ⟨somePair (P := HillSays xs) (b := false) (fun h => by simp at h), hx.drewN _⟩
      · have t1 : (p == pl) = false := by simpa using e1
        cases fl with
        | false =>
          have hn := Lib.hid (Hnext.out e1 (fun ⟨j, hj, hfall⟩ => by have := HF.out j hj hfall; simp at this))
          have HF3 : Hid (Falls xs (k + 1) (decide (p < pl))) := HF2.out _ (fun h => by simp at h) (fun h => by simpa using h)
          clear e1
          by_cases e2 : p < pl
          · have t2 : decide (p < pl) = true := by simpa using e2
            rw [t2] at HF3
            clear e2
            go_wp2_with fail
            go_quiet (fail)
            go_wp2_with fail
            go_quiet (fail)
            go_wp2
            exact ⟨⟨k + 1, true, by omega, rfl, by go_num, hn.out, HF3.out, hx.drewN _⟩, by simp [intOf]; omega⟩
          · have t2 : decide (p < pl) = false := by simpa using e2
            rw [t2] at HF3
            clear e2
            go_wp2_with fail
            go_quiet (fail)
            go_wp2_with fail
            go_quiet (fail)
            go_wp2
            exact ⟨⟨k + 1, false, by omega, rfl, by go_num, hn.out, HF3.out, hx.drewN _⟩, by simp [intOf]; omega⟩
        | true =>
          have HF3 : Hid (Falls xs (k + 1) true) := HF2.out _ (fun h => rfl) (fun h => rfl)
          by_cases e2 : pl < p
          · have t2 : decide (pl < p) = true := by simpa using e2
            clear e1 e2
            go_wp2_with fail
            go_quiet (fail)
            go_wp2
            go_ret2
            exact ⟨somePair (P := HillSays xs) (b := false) (fun h => by simp at h), hx.drewN _⟩
          · have t2 : decide (pl < p) = false := by simpa using e2
            have hn := Lib.hid (Hnext.out e1 (fun _ => by omega))
            clear e1 e2
            go_wp2_with fail
            go_quiet (fail)
            go_wp2_with fail
            go_quiet (fail)
            go_wp2
            exact ⟨⟨k + 1, true, by omega, rfl, by go_num, hn.out, HF3.out, hx.drewN _⟩, by simp [intOf]; omega⟩
    · have hlt' : ¬ ((k : Int) + 1 < (xs.length : Int)) := by omega
      have hfin := Lib.hid (show HillSays xs true from fun _ => by rw [show xs.length = k + 1 by omega]; exact HP.out)
      go_wp2
      go_ret2
      exact ⟨somePair hfin.out, hx⟩
end Go.Proofs.Ytencdgmcpnbfcaa
