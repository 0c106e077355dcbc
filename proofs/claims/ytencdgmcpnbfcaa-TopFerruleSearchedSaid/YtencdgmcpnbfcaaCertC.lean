/- curve: CheckCertificate, of cuts that prove a power. -/
import Derived.Test.YtencdgmcpnbfcaaCertB
namespace Go.Proofs.Ytencdgmcpnbfcaa
open Go.RowKit
set_option maxHeartbeats 2000000
set_option maxRecDepth 100000

theorem CertOk.each {l : List Int} {most : Int} {cs : List Nat} (h : CertOk l most cs) (k : Nat) (hk : k < cs.length) :
    (k + 1 < cs.length → l.getD (cs.getD k 0) 0 * ((cs.getD (k + 1) 0 : Int) - 1) ≤ most) ∧ (k + 1 = cs.length → l.getD (cs.getD k 0) 0 * ((l.length : Int) - 1) ≤ most) :=
  ⟨fun h1 => h.1.prov k h1, fun h1 => by have := h.2; rwa [show cs.length - 1 = k by omega] at this⟩
theorem natInts_getD (cs : List Nat) (k : Nat) : (natInts cs).getD k 0 = ((cs.getD k 0 : Nat) : Int) := by
  simp [natInts, List.getD_eq_getElem?_getD, List.getElem?_map]; cases cs[k]? <;> rfl

/-- The cut before the k-th one. -/
def prevCut (cs : List Nat) (k : Nat) : Int := if k = 0 then -1 else ((cs.getD (k - 1) 0 : Nat) : Int)

theorem checkCertificate_curve (f : List (List PCell)) (n : Nat) (hn : (n : Int) = endL f) (a ac : Option Addr) (b off cap bc offc capc : Nat) (cs : List Nat) (most : Int) (w : World) (ok : FieldOk' f) (h0 : 0 ≤ most) (h1 : most ≤ 960000)
    (hc : CertOk (curveL f (n + 1)) most cs) (H : FieldAt w a b off f) (Hc : IntsAt w ac bc offc (natInts cs)) :
    Calls Try.prog 16 #[.slice a f.length cap, .int .i64 most, .slice ac cs.length capc] w fun r w' => r = .returned (.int .i64 0) ∧ Ext w w' := by
  have hb := endL_bound ok
  have hl6 := ok.2.1
  have Hn := Lib.hid hn
  have hn2 : n ≤ 800 := by omega
  clear hn hb
  have hsh := hc.1.short
  have hne := hc.1.ne
  rw [curveL_length] at hsh
  have hwi : withinL most 0 960000 = 0 := withinL_ok (by omega) (by omega)
  have hcn : firstL [if (cs.length : Int) = 0 then (12 : Int) else 0, if 801 < (cs.length : Int) then 5 else 0] = 0 := by rw [if_neg (by omega), if_neg (by omega)]; rfl
  go_enter Try.func16, Try.ntmps16
  go_wp2_with fail
  refine (Curve_curve f a b off cap _ ok H).mono ?_
  rintro e w1 ⟨g, n', hn', rfl, hi, hx1⟩
  obtain rfl : n' = n := by have := Hn.out; omega
  clear hn'
  have hvals := curveL_vals f (n' + 1) (by omega)
  have hll := curveL_length f (n' + 1)
  generalize hgl : curveL f (n' + 1) = l at *
  have Hl := Lib.hid hgl
  clear hgl
  go_wp2_with fail
  refine (within_curve _ _ _ _).mono ?_
  rw [hwi]
  rintro e w' ⟨rfl, rfl⟩
  go_wp2_with fail
  refine (counted_curve cs.length 801 _).mono ?_
  rw [hcn]
  rintro e w2 ⟨rfl, hx2⟩
  go_wp2_with fail
  refine (first_curve3 _ _ _ _ _).mono ?_
  rintro e w3 ⟨rfl, hx3⟩
  rw [show firstL [0, 0, 0] = 0 from rfl]
  go_wp2_with fail
  have hcl := Lib.hid hc.1
  have hce := Lib.hid (fun k hk => hc.each k hk)
  clear hc
  have hx03 := (hx1.trans hx2).trans hx3
  have Hc3 := Hc.mono hx03
  have hi3 := hi.mono (hx2.trans hx3)
  go_loopw [9, 34] (fun s9 i wr => ∃ k : Nat, k ≤ cs.length ∧ i = .int .i64 k ∧ s9 = .int .i64 (prevCut cs k) ∧ Ext w3 wr) (fun _ i _ => cs.length - (intOf i).toNat)
  case atStart => exact ⟨0, Nat.zero_le _, rfl, rfl, Ext.refl _⟩
  case round =>
    obtain ⟨k, hk, rfl, rfl, hx⟩ := hrel
    by_cases hlt : k < cs.length
    · have cc := (Hc3.mono hx).cell k (by rw [natInts_length]; omega)
      have ic := fun W => IntsAt.idx Try.underlying26 szInt (Hc3.mono hx) capc k W (by rw [natInts_length]; omega)
      have hcl2 := hcl.out.lt k hlt
      rw [hll] at hcl2
      have hpr : (k = 0 ∧ cs.getD k 0 = 0 ∧ prevCut cs k = -1) ∨ (0 < k ∧ prevCut cs k < (cs.getD k 0 : Int)) := by
        by_cases e : k = 0
        · subst e; exact .inl ⟨rfl, hcl.out.zero, rfl⟩
        · right
          have := hcl.out.inc (k - 1) (by omega)
          rw [show k - 1 + 1 = k by omega] at this
          rw [prevCut, if_neg e]; omega
      have hpv := Lib.hid (show prevCut cs (k + 1) = (cs.getD k 0 : Int) by rw [prevCut, if_neg (by omega)]; rfl)
      rw [natInts_getD] at cc
      rw [natInts_length] at ic
      generalize prevCut cs k = pb at *
      generalize cs.getD k 0 = c at *
      have hw2 : withinL (c : Int) 0 (n' : Int) = 0 := withinL_ok (by omega) (by omega)
      rcases hpr with ⟨rfl, rfl, rfl⟩ | ⟨hk0, hlo⟩
      · have hw3 : withinL 0 0 (n' : Int) = 0 := withinL_ok (by omega) (by omega)
        simp only [Int.cast_ofNat_Int, Nat.add_zero] at cc ic hpv
        clear hw2 hcl2
        go_wp2_with fail
        refine (within_curve _ _ _ _).mono ?_
        rw [hw3]
        rintro e w' ⟨rfl, rfl⟩
        go_wp2_with fail
        refine (when_curve _ _ _).mono ?_
        rintro e w' ⟨rfl, rfl⟩
        go_wp2_with fail
        refine (first_curve2 _ _ _ _).mono ?_
        rintro e w4 ⟨rfl, hx4⟩
        go_wp2
        go_roundw
        case rel => exact ⟨1, by omega, rfl, by rw [hpv.out], hx.trans hx4⟩
        case measure => simp [intOf]; omega
      · have t0 : ((k : Int) == 0) = false := by simp; omega
        have t1 : decide ((c : Int) ≤ pb) = false := by simp; omega
        have t2 : pb < (c : Int) := hlo
        go_wp2_with fail
        refine (within_curve _ _ _ _).mono ?_
        rw [hw2]
        rintro e w' ⟨rfl, rfl⟩
        go_wp2_with fail
        refine (when_curve _ _ _).mono ?_
        rintro e w' ⟨rfl, rfl⟩
        go_wp2_with fail
        refine (first_curve2 _ _ _ _).mono ?_
        rintro e w4 ⟨rfl, hx4⟩
        go_wp2
        go_roundw
        case rel => exact ⟨k + 1, by omega, by go_num, by rw [hpv.out], hx.trans hx4⟩
        case measure => simp [intOf]; omega
    · have hge : ¬ k < cs.length := hlt
      clear hlt
      go_wp2_with fail
      go_loopw [65] (fun i wr => ∃ k : Nat, k ≤ cs.length ∧ i = .int .i64 k ∧ Ext w3 wr) (fun i _ => cs.length - (intOf i).toNat)
      case atStart => exact ⟨0, Nat.zero_le _, rfl, hx⟩
      case round =>
        obtain ⟨j, hj, rfl, hxj⟩ := hrel
        by_cases hjl : j < cs.length
        · have cc := (Hc3.mono hxj).cell j (by rw [natInts_length]; omega)
          have ic := fun W => IntsAt.idx Try.underlying26 szInt (Hc3.mono hxj) capc j W (by rw [natInts_length]; omega)
          have hcl2 := hcl.out.lt j hjl
          rw [hll] at hcl2
          rw [natInts_getD] at cc
          rw [natInts_length] at ic
          obtain ⟨e1, e2⟩ := hce.out j hjl
          have hnx : ∀ _ : j + 1 < cs.length, _ := fun h => (Hc3.mono hxj).cell (j + 1) (by rw [natInts_length]; omega)
          have inx : ∀ _ : j + 1 < cs.length, _ := fun h W => IntsAt.idx Try.underlying26 szInt (Hc3.mono hxj) capc (j + 1) W (by rw [natInts_length]; omega)
          have lnx := fun h => hcl.out.lt (j + 1) h
          rw [hll] at lnx e2
          rw [natInts_getD] at hnx
          rw [natInts_length] at inx
          have hvl := hvals (cs.getD j 0) (by omega)
          have cl := (hi3.mono hxj).cell (cs.getD j 0) (by omega)
          have il := fun W => IntsAt.idx Try.underlying26 szInt (hi3.mono hxj) (n' + 1) (cs.getD j 0) W (by omega)
          rw [hll] at il
          generalize cs.getD j 0 = c at *
          generalize cs.getD (j + 1) 0 = d at *
          generalize l.getD c 0 = cur at *
          simp only [Nat.zero_add, Int.natCast_add, Int.cast_ofNat_Int] at cc ic hnx inx cl il
          by_cases hn1 : j + 1 < cs.length
          · have hnx := hnx hn1
            have inx := inx hn1
            have lnx := lnx hn1
            have e1 := e1 hn1
            clear e2
            have t1 : decide ((j : Int) + 1 < (cs.length : Int)) = true := by simp; omega
            have hmb := mul_bound cur ((d : Int) - 1) 100000 1000 (by omega) (by omega) (by omega) (by omega) (by omega)
            have hwr := wrap_id (cur * ((d : Int) - 1)) (by omega) (by omega)
            go_wp2
            go_roundw
            case rel => exact ⟨j + 1, by omega, by go_num, hxj⟩
            case measure => simp [intOf]; omega
          · have e2 := e2 (by omega)
            clear e1 hnx inx lnx
            have t1 : decide ((j : Int) + 1 < (cs.length : Int)) = false := by simp; omega
            have hmb := mul_bound cur (n' : Int) 100000 1000 (by omega) (by omega) (by omega) (by omega) (by omega)
            have hwr := wrap_id (cur * (n' : Int)) (by omega) (by omega)
            have e3 : cur * (n' : Int) ≤ most := by simpa using e2
            clear e2
            go_wp2
            go_roundw
            case rel => exact ⟨j + 1, by omega, by go_num, hxj⟩
            case measure => simp [intOf]; omega
        · go_wp2
          go_ret
          exact ⟨rfl, hx03.trans hxj⟩
end Go.Proofs.Ytencdgmcpnbfcaa
