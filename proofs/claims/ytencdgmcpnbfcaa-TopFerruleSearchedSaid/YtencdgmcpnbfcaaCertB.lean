/- curve: Certificate. -/
import Derived.Test.YtencdgmcpnbfcaaHigh
import Derived.WalkMore
namespace Go.Proofs.Ytencdgmcpnbfcaa
open Go.RowKit
set_option maxHeartbeats 2000000
set_option maxRecDepth 100000

/-- The certificate: cuts that prove the power. -/
def CertOk (l : List Int) (most : Int) (cs : List Nat) : Prop := CertGo l most cs ∧ l.getD (cs.getD (cs.length - 1) 0) 0 * ((l.length : Int) - 1) ≤ most
def CertOut (l : List Int) (most : Int) (r : Ending) (w' : World) : Prop := ∃ cs, CertOk l most cs ∧ IntsOut (natInts cs) r w'

def lenOf : Value → Nat
  | .slice _ n _ => n
  | _ => 0

theorem run_field_peak (o1 o2 : Int) (W : World) : (Instr.field 63 (.agg #[.int .i64 o1, .int .i64 o2]) 1).run Try.prog W = .ok (.int .i64 o2) W := by kernel_rfl
attribute [local go_sem] run_field_peak

theorem Certificate_curve (f : List (List PCell)) (n : Nat) (hn : (n : Int) = endL f) (a : Option Addr) (b off cap : Nat) (w : World) (ok : FieldOk' f) (H : FieldAt w a b off f) :
    Calls Try.prog 14 #[.slice a f.length cap] w fun r w' => CertOut (curveL f (n + 1)) (hiL (fieldPowers f (n + 1))).2 r w' ∧ Ext w w' := by
  have hb := endL_bound ok
  have hl6 := ok.2.1
  have Hn := Lib.hid hn
  have hn2 : n ≤ 1000 := by omega
  clear hn hb
  go_enter Try.func14, Try.ntmps14
  go_wp2
  go_step3
  go_wp2_with fail
  refine (Curve_curve f a b off cap _ ok H).mono ?_
  rintro e w1 ⟨g, n', hn', rfl, hi, hx1⟩
  obtain rfl : n' = n := by have := Hn.out; omega
  clear hn'
  go_wp2_with fail
  have hvals := curveL_vals f (n' + 1) (by omega)
  have hh := highest_curve (curveL f (n' + 1)) (some ⟨g, 0, none⟩) g 0 (n' + 1) w1 (by rw [curveL_length]; omega) hvals (by intro e; have := curveL_length f (n' + 1); rw [e] at this; simp at this) hi
  simp only [curveL_length] at hh
  refine hh.mono ?_
  have hsp := hi_spec (curveL f (n' + 1)) (n' + 1) (by omega)
  rw [show powersL (curveL f (n' + 1)) (n' + 1) = fieldPowers f (n' + 1) from rfl] at hsp ⊢
  have hll := curveL_length f (n' + 1)
  generalize hgo : hiL (fieldPowers f (n' + 1)) = o at *
  generalize hgl : curveL f (n' + 1) = l at *
  obtain ⟨o1, o2⟩ := o
  have Ho := Lib.hid hgo
  have Hl := Lib.hid hgl
  clear hgo hgl
  dsimp only at *
  rintro e w2 ⟨rfl, hx2⟩
  go_wp2_with fail
  go_step3
  go_wp2_with fail
  have hmax : ∀ i : Nat, i < n' + 1 → (i : Int) * l.getD i 0 ≤ o2 := by
    obtain ⟨j, _, e, h3, _⟩ := hsp
    have e2 : o2 = (j : Int) * l.getD j 0 := (Prod.mk.inj e).2
    rw [e2]; exact h3
  have hm0 : 0 ≤ o2 := by have := hmax 0 (by omega); simpa using this
  have Hmax := Lib.hid hmax
  clear hmax hsp
  have hst : CertGo l o2 [0] := CertGo.start (by omega)
  go_loopw [7] (fun v wr => ∃ cs : List Nat, CertGo l o2 cs ∧ wr.ownsRow w2.heap.size 3 1 v cs.length ((natInts cs).map (Value.int .i64)) ∧ Ext w2 wr) (fun v _ => n' + 2 - lenOf v)
  case atStart => exact ⟨[0], hst, ⟨rfl, .inr ⟨w2.heap.size, 1, #[.int .i64 0], rfl, Nat.le_refl _, World.alloc_heap_new _ _, by decide, by decide, rfl, rfl⟩⟩, (Ext.refl _).alloc _⟩
  case round =>
    obtain ⟨cs, hcg, hown, hx⟩ := hrel
    have hne := hcg.ne
    have hsh := hcg.short
    rw [hll] at hsh
    obtain ⟨a2, b2, cap2, hv2, hi2, _⟩ := owns_ints (natInts_length cs).symm hown
    rw [natInts_length] at hv2
    subst hv2
    have hiw := hi.mono (hx2.trans hx)
    have clast := hi2.cell (cs.length - 1) (by rw [natInts_length]; omega)
    rw [show (natInts cs).getD (cs.length - 1) 0 = ((cs.getD (cs.length - 1) 0 : Nat) : Int) by simp [natInts, List.getD_eq_getElem?_getD, List.getElem?_map]; cases cs[cs.length - 1]? <;> rfl] at clast
    have ilast := fun W => IntsAt.idx Try.underlying26 szInt hi2 cap2 (cs.length - 1) W (by rw [natInts_length]; omega)
    rw [natInts_length, show ((cs.length - 1 : Nat) : Int) = (cs.length : Int) - 1 by omega] at ilast
    have hlt := hcg.lt (cs.length - 1) (by omega)
    rw [hll] at hlt
    have hsn := Lib.hid (fun c h1 h2 h3 => CertGo.snoc (c := c) hcg h1 h2 h3)
    have Hcg := Lib.hid hcg
    clear hcg
    have hvl := hvals (cs.getD (cs.length - 1) 0) (by omega)
    have ccur := hiw.cell (cs.getD (cs.length - 1) 0) (by omega)
    have icur := fun W => IntsAt.idx Try.underlying26 szInt hiw (n' + 1) (cs.getD (cs.length - 1) 0) W (by omega)
    rw [hll] at icur
    generalize hlast : cs.getD (cs.length - 1) 0 = last at *
    generalize hcur : l.getD last 0 = cur at *
    have Hlast := Lib.hid hlast
    have Hcur := Lib.hid hcur
    clear hlast hcur
    simp only [Nat.zero_add] at clast ilast ccur icur
    have hlm := Hmax.out last hlt
    rw [Hcur.out] at hlm
    have hnb := mul_bound cur (n' : Int) 100000 1000 (by omega) (by omega) (by omega) (by omega) (by omega)
    have hwr := wrap_id (cur * (n' : Int)) (by omega) (by omega)
    by_cases hend : cur * (n' : Int) ≤ o2
    · go_wp2_with fail
      rw [Exit.noGoto_ret]
      go_ret2
      rw [Hl.out, Ho.out]
      refine ⟨⟨cs, ⟨Hcg.out, ?_⟩, ?_⟩, (hx1.trans hx2).trans hx⟩
      · rw [Hlast.out, Hcur.out, hll]; simpa using hend
      · have := intsOut cap2 hi2
        rw [natInts_length] at this
        exact this
    · have hnc := next_cut (cur := cur) (most := o2) (N := (n' : Int) + 1) (last := (last : Int)) hm0 (by omega) (by omega) (by simpa using hend) (by rw [Int.mul_comm]; exact hlm) (by omega)
      obtain ⟨hp, hq0, hq1, hq2, hq3⟩ := hnc
      have Hq3 := Lib.hid hq3
      clear hq3
      obtain ⟨c, hc⟩ := Int.eq_ofNat_of_zero_le hq0
      have Hsn := Lib.hid (hsn.out (c + 1) (by omega) (by omega) (by have := Hq3.out; rw [hc] at this; simpa using this))
      rw [hc] at hq1 hq2
      have hdv : o2 / cur = (c : Int) := hc
      clear hq0 hc hsn Hq3
      go_wp2_with (at_builtin; refine append_new wr rfl _ _ 26 rfl w2.heap.size 3 (.int .i64 0) 1 8 Try.underlying26 infoInt rfl (by decide) _ _ _ rfl hown 1 rfl rfl (by simp [Value.oneCell']) (by simp [maxLen]; omega) (by omega) hx.size ?_; intro v' w3 hown' hb3 hsz3; obtain ⟨g', cap', rfl⟩ := ownsRow_succ hown')
      go_roundw
      case rel => exact ⟨cs ++ [c + 1], Hsn.out, by rw [natInts_snoc, List.length_append]; exact hown', hb3 _ _ hx (Nat.le_refl _)⟩
      case measure => simp [lenOf]; omega
end Go.Proofs.Ytencdgmcpnbfcaa
