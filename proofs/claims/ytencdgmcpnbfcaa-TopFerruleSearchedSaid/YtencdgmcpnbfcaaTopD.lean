/- the top package: whether a field is small. -/
import Derived.Test.YtencdgmcpnbfcaaTopC
namespace Go.Proofs.Ytencdgmcpnbfcaa
open Go.RowKit
set_option maxHeartbeats 2000000
set_option maxRecDepth 100000

def SmallOk (f : List (List PCell)) : Prop := FieldOk' f ∧ f.length ≤ 3 ∧ ∀ cs ∈ f, cs.length ≤ 4 ∧ chainVoltL cs 0 ≤ 60
def SmallF (f : List (List PCell)) (s : Bool) : Prop := s = true → SmallOk f

theorem small_top (f : List (List PCell)) (a : Option Addr) (b off cap : Nat) (w : World) (hn : f.length ≤ 100000000000000) (hm : ∀ cs ∈ f, cs.length ≤ 100000000000000) (H : FieldAt w a b off f) :
    Calls Try.prog 4 #[.slice a f.length cap] w fun r w' => SomeBool (SmallF f) r ∧ Ext w w' := by
  go_enter Try.func4, Try.ntmps4
  go_wp2_with fail
  refine (shortField_r04 f a b off cap _ hn hm H).mono ?_
  rintro e w' ⟨⟨s, rfl, hs⟩, rfl⟩
  cases s
  · clear hs
    go_wp2
    go_ret
    exact ⟨someBool (fun h => by cases h), Ext.refl _⟩
  · obtain ⟨hs1, hs2⟩ := hs rfl
    clear hs
    go_wp2_with fail
    refine (checkField_r04 f a b off cap _ (by omega) (fun cs hc => ⟨by have := (hs2 cs hc).1; omega, fun c hcc => by have := (hs2 cs hc).2 c hcc; omega⟩) H).mono ?_
    rintro e w1 ⟨⟨z, rfl, hz⟩, hx1⟩
    have Hz := Lib.hid hz
    clear hz
    by_cases hz0 : z = 0
    · have ok := Hz.out hz0
      have Hok := Lib.hid ok.2.2
      subst hz0
      by_cases h3 : 3 < f.length
      · go_wp2
        go_ret
        exact ⟨someBool (fun h => by cases h), hx1⟩
      · have u3 : decide ((3 : Int) < (f.length : Int)) = false := by simp; omega
        go_wp2
        go_loopw [20] (fun i wr => ∃ k : Nat, k ≤ f.length ∧ i = .int .i64 k ∧ (∀ j, j < k → (f.getD j []).length ≤ 4 ∧ chainVoltL (f.getD j []) 0 ≤ 60) ∧ Ext w wr) (fun i _ => f.length - (intOf i).toNat)
        case atStart => exact ⟨0, Nat.zero_le _, rfl, fun j hj => by omega, hx1⟩
        case round =>
          obtain ⟨k, hk, rfl, hf, hx⟩ := hrel
          have Hf := Lib.hid hf
          clear hf
          by_cases hlt : k < f.length
          · have hidx := fun W => FieldAt.idx Try.underlying22 szChainR H cap k W hlt
            obtain ⟨ta, tb, toff, tcap, e1, e2⟩ := (H.mono hx).cell k hlt
            have hmem := Hok.out (f.getD k []) (by simp [List.getD_eq_getElem?_getD, hlt])
            generalize hc : f.getD k [] = c at *
            have Hc := Lib.hid hc
            clear hc
            have hm1 := hmem.1
            have hm2 := hmem.2.1
            have Hm := Lib.hid hmem.2.2
            clear hmem
            by_cases h4 : 4 < c.length
            · have u4 : decide ((4 : Int) < (c.length : Int)) = true := by simp; omega
              go_wp2
              go_ret
              exact ⟨someBool (fun h => by cases h), hx⟩
            · have u4 : decide ((4 : Int) < (c.length : Int)) = false := by simp; omega
              have hvb := chainVolt_bound c Hm.out 0
              go_wp2_with fail
              refine (chainVolt0_r04 c ta tb toff tcap _ hm2 Hm.out e1).mono ?_
              rintro e w2 ⟨rfl, hx2⟩
              by_cases h6 : 60 < chainVoltL c 0
              · go_wp2
                go_ret
                exact ⟨someBool (fun h => by cases h), hx.trans hx2⟩
              · go_wp2
                exact ⟨⟨k + 1, by omega, by go_num, lt_snoc Hf.out (by rw [Hc.out]; omega), hx.trans hx2⟩, by simp [intOf]; omega⟩
          · go_wp2
            go_ret
            refine ⟨someBool fun _ => ⟨ok, by omega, fun cs hcs => ?_⟩, hx⟩
            obtain ⟨j, hj, e⟩ := List.getElem_of_mem hcs
            have := Hf.out j (by omega)
            simpa [List.getD_eq_getElem?_getD, hj, e] using this
    · have hzb : (z != 0) = true := by simpa using hz0
      go_wp2
      go_ret
      exact ⟨someBool (fun h => by cases h), hx1⟩
end Go.Proofs.Ytencdgmcpnbfcaa
