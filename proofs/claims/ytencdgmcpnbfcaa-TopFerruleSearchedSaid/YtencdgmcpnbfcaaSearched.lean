/- TopFerruleSearched: the law returns true for every input, and the input reads as it did; no condition. -/
import Derived.Test.YtencdgmcpnbfcaaTopF
import Derived.Test.YtencdgmcpnbfcaaOpen
import Derived.Test.YtencdgmcpnbfcaaRows
import Derived.OpenShut
namespace Go.Proofs.Ytencdgmcpnbfcaa
open Go.ChangeShapes Go.WideShapes Go.ChangeAt Go.RowKit
set_option maxHeartbeats 1000000

theorem prog_own : ownKnob Try.prog.godebug = none := by kernel_rfl
theorem prog_laid : laidOutB Try.prog = true := by kernel_rfl
theorem cellT_ref : CellT Try.prog 59 57 49 := by
  refine ⟨by kernel_rfl, ⟨_, _, _, Try.underlying59, rfl, rfl, rfl, rfl, Try.underlying3, Try.underlying3, by kernel_rfl, by kernel_rfl, by kernel_rfl⟩, Try.underlying57, ⟨_, _, Try.underlying49, by kernel_rfl, rfl, rfl, by kernel_rfl, by kernel_rfl, Try.underlying3, Try.underlying3⟩⟩

/-- Two bytes, by value. -/
theorem open_bytes2 {H : Type} {enc : TypeId × Value → H} {P : Program} {w : World} {t e : TypeId} {r : Reach} {b0 : Nat} {v : Value} {d : DataW H} {ps : List MemPlace} (ht : P.underlying t = some (.array 2 e)) (hs : P.cellsOf t = 2) (he : P.underlying e = some (.int .u8)) (ce : P.cellsOf e = 1)
    (hv : Value.okWide P w r b0 t v) (h : DataW.Trod enc P w 0 (fun _ => true) true t v d ps) : ∃ m0 m1 : Int, v = .agg #[.int .u8 m0, .int .u8 m1] ∧ (0 ≤ m0 ∧ m0 ≤ 255) ∧ (0 ≤ m1 ∧ m1 ≤ 255) := by
  simp only [Value.okWide, ht] at hv
  obtain ⟨cs, rfl, hsz, _⟩ := hv
  obtain ⟨fuel, hf⟩ := h
  obtain ⟨xs, m, _, _, hl, _, hg⟩ := DataW.trod_array ht hf
  obtain ⟨l⟩ := cs
  rw [hs] at hl
  simp only [Value.cells] at hl hg
  match l, hl with
  | [c0, c1], _ =>
    have g0 := hg 0 (by omega)
    have g1 := hg 1 (by omega)
    rw [ce] at g0 g1
    have wf : ∀ n : Int, (Lit.int .u8 n).wf = true → 0 ≤ n ∧ n ≤ 255 := by
      intro n hn
      have h1 : IntKind.u8.min = 0 := rfl
      have h2 : IntKind.u8.max = 255 := rfl
      simp only [Lit.wf, Bool.and_eq_true, decide_eq_true_eq] at hn
      omega
    rcases hx0 : xs[0]? with _ | x0
    · rw [hx0] at g0; have := List.getElem?_eq_none_iff.1 hx0; omega
    rcases hx1 : xs[1]? with _ | x1
    · rw [hx1] at g1; have := List.getElem?_eq_none_iff.1 hx1; omega
    rw [hx0] at g0
    rw [hx1] at g1
    obtain ⟨n0, e0, _, w0⟩ := DataW.trod_int he g0
    obtain ⟨n1, e1, _, w1⟩ := DataW.trod_int he g1
    simp at e0 e1
    subst e0 e1
    exact ⟨n0, n1, rfl, wf _ w0, wf _ w1⟩

set_option maxRecDepth 100000 in
theorem searched_lifted (os : Os) (started : os.Started) (H : Type) (enc : TypeId × Value → H) :
    ReturnsInHanded {} Try.checked os 3 .any (Rows.topFerruleSearchedSpec.pre6 enc Try.prog Try.f3 Rows.topFerruleSearchedRow.domain false) (Rows.topFerruleSearchedSpec.post enc Try.prog Try.f3 false true false false) := by
  refine returnsInHanded_of_change_sized (C := Try.checked) prog_own started (by kernel_rfl) Try.func3
    (ChangeSpec.witness6 (enc := enc) (C := Try.checked) false ⟨#[], #[.slice none 0 0, .agg #[.int .u8 0, .int .u8 0]], []⟩ 8 (by kernel_rfl) (by kernel_rfl) (by kernel_rfl) (by kernel_rfl)) ?_
  intro W base args ds gs before hval0 hW _ hsz0 _
  have hsz : (DataW.weightsEach Try.prog (Try.f3.params.toList ++ Rows.topFerruleSearchedSpec.plain.varTypes Try.prog) (ds ++ gs)).all (· ≤ reachBytes) = true := hsz0
  clear hsz0
  have hval : ∀ (j : Nat) t v, Try.f3.params[j]? = some t → args[j]? = some v → Value.okWide Try.prog W .any base t v := hval0
  have hW' := hW
  obtain ⟨p, q, hA0, hV, rfl, _, _⟩ := hW
  have hA : DataW.TrodAll enc Try.prog W 0 (fun _ => true) true Try.f3.params.toList args.toList ds p := hA0
  rw [Try.params3] at hA hval hsz
  obtain ⟨v0, v1, d0, d1, p0, p1, rfl, rfl, rfl, h0, h1⟩ := trodAll_two hA
  obtain ⟨rfl, rfl⟩ := trodVars_none hV
  obtain ⟨m0, m1, rfl, g0, g1⟩ := open_bytes2 Try.underlying23 (by kernel_rfl) Try.underlying5 (by kernel_rfl) (hval 1 23 v1 rfl rfl) h1
  obtain ⟨a0, len0, cap0, rfl⟩ := okWide_slice Try.underlying22 (hval 0 22 v0 rfl rfl)
  have h0k := h0
  have h1k := h1
  obtain ⟨fuel, hf⟩ := h0
  simp only [Value.cells] at hf
  obtain ⟨f, a, b, off, cap, hv, hF, hR⟩ := open_field Try.underlying22 (by kernel_rfl) Try.underlying46 cellT_ref hf
  have hR2 := hR reachBytes (fun n hn => by
    have := List.all_eq_true.1 hsz n (DataW.weights_mem_each (j := 0) rfl rfl n hn)
    simpa using this)
  have hb1 : Try.prog.bytesOf 46 = 24 := by kernel_rfl
  have hb2 : Try.prog.bytesOf 59 = 40 := by kernel_rfl
  rw [hb1, hb2] at hR2
  have hrb := reachBytes_lt
  clear hA0 hval0
  simp only [List.append_nil] at hW'
  have hlt : ∀ x ∈ p0 ++ p1, x.block < W.heap.size := fun x hx => hW'.lt x hx
  cases hv
  refine (top_no f a0 b off cap0 m0 m1 W (by have := hR2.1; omega) (fun cs hcs => by have := hR2.2 cs hcs; omega) g0 g1 hF).mono fun e W' ⟨he, hx⟩ => ?_
  subst he
  have hx' : Below W.heap.size W W' := hx
  refine ⟨_, rfl, _, _, _, [], p0 ++ p1, [], hW', ?_, ?_, rfl, hx'.frame _, fun h => by cases h⟩
  · exact trodAll_mk1 (shut_bool Try.underlying4 true)
  · exact trodAll_mk2 (Below.trod prog_laid (by kernel_rfl) (of_decide_eq_true (by kernel_rfl)) h0k hx' (fun x hx => hlt x (List.mem_append_left _ hx))) (Below.trod prog_laid (by kernel_rfl) (of_decide_eq_true (by kernel_rfl)) h1k hx' (fun x hx => hlt x (List.mem_append_right _ hx)))

theorem searched_holds : Rows.TopFerruleSearchedSaid :=
  OpenClaim.holds_of_wide 3 Try.f3 rfl rfl rfl rfl rfl rfl rfl ⟨rfl, rfl, rfl, rfl, rfl⟩ rfl rfl rfl rfl rfl (by kernel_rfl) Try.func3 (by kernel_rfl)
    (of_decide_eq_true (by kernel_rfl)) (by unfold Func.isWrapper; first | (rw [if_pos (by decide +kernel)]; kernel_rfl) | (rw [if_neg (by decide +kernel)]; exact ⟨rfl, rfl⟩))
    (fun os started H enc _ => searched_lifted os started H enc)
end Go.Proofs.Ytencdgmcpnbfcaa
