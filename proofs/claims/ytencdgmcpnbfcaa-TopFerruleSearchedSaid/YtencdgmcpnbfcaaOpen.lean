/- arguments opened: a slice of slices of cells (a slice of points and two integers each), whatever memory they share. -/
import Derived.Test.YtencdgmcpnbfcaaBase2
import Derived.ProofKit
import Derived.Deep.SlicePairs
import Derived.SizedLaws
namespace Go.Proofs.Ytencdgmcpnbfcaa
open Go.ChangeShapes Go.WideShapes Go.RowKit Go.Deep
set_option maxHeartbeats 1000000

section
variable {H : Type} {enc : TypeId × Value → H} {P : Program} {w : World} {fuel : Nat}

theorem spot_of {a : Addr} {v : Value} (h : w.cell? (a.add 0) = some v) : a.spot = none := by
  simpa [Addr.add] using World.cell?_spot h
theorem at_plain {a : Addr} {j : Nat} {v : Value} (h : w.cell? (a.add j) = some v) : w.cell? ⟨a.block, a.off + j, none⟩ = some v := by
  by_cases e : j = 0
  · subst e
    have hs := spot_of h
    obtain ⟨b, o, s⟩ := a
    simp only at hs
    subst hs
    simpa [Addr.add] using h
  · simpa [Addr.add, e] using h

theorem open_pts {t e : TypeId} {f0 f1 : Field} {v : Value} {x : DataW H × List MemPlace} (ht : P.underlying t = some (.slice e)) (he : P.underlying e = some (.struct #[f0, f1])) (ce : P.cellsOf e = 2) (o0 : f0.offset = 0) (o1 : f1.offset = 1)
    (c0 : P.cellsOf f0.type = 1) (c1 : P.cellsOf f1.type = 1) (q0 : P.underlying f0.type = some (.int .i64)) (q1 : P.underlying f1.type = some (.int .i64)) (h : DataW.trod enc P w 0 (fun _ => true) true fuel t [v] = some x) :
    ∃ (ps : List (Int × Int)) (ta : Option Addr) (tb toff cap : Nat), v = .slice ta ps.length cap ∧ PtsAt w ta tb toff ps := by
  rcases open_slice_pairs ht he ce o0 o1 c0 c1 h with ⟨hv, _⟩ | ⟨a, len, cap, m, n, V0, V1, D0, D1, P0, P1, hv, _, hl, _, hm, _, hx⟩
  · exact ⟨[], none, 0, 0, 0, by simpa using hv, ⟨fun h => absurd rfl h, fun h => absurd rfl h, fun i hi => by simp at hi, fun i hi => by simp at hi⟩⟩
  · simp only [if_true] at hm
    have each : ∀ i, i < m → ∃ q : Int × Int, w.cell? (a.add (i * 2)) = some (.int .i64 q.1) ∧ w.cell? (a.add (i * 2 + 1)) = some (.int .i64 q.2) := by
      intro i hi
      obtain ⟨g1, g2, g3, g4⟩ := hx i hi
      obtain ⟨n1, h1, _⟩ := DataW.trod_int q0 g3
      obtain ⟨n2, h2, _⟩ := DataW.trod_int q1 g4
      simp only [List.cons.injEq, and_true] at h1 h2
      exact ⟨(n1, n2), by rw [g1, h1], by rw [g2, h2]⟩
    obtain ⟨q, hq⟩ := choose_lt each
    have hll : ((List.range len).map q).length = len := by simp
    have hget : ∀ i, i < len → ((List.range len).map q).getD i (0, 0) = q i := fun i hi => by simp [List.getD_eq_getElem?_getD, List.getElem?_map, List.getElem?_range hi]
    refine ⟨(List.range len).map q, some a, a.block, a.off, cap, by rw [hll]; simpa using hv, ⟨fun hne => ?_, fun hne => ?_, fun i hi => ?_, fun i hi => ?_⟩⟩
    · have hpos : 0 < len := by rcases Nat.eq_zero_or_pos len with h | h; exact absurd (by rw [h]; rfl) hne; exact h
      have := spot_of (by simpa using (hq 0 (by omega)).1)
      obtain ⟨b, o, s⟩ := a
      simp only at this
      subst this
      rfl
    · have hpos : 0 < len := by rcases Nat.eq_zero_or_pos len with h | h; exact absurd (by rw [h]; rfl) hne; exact h
      exact World.block_lt_of_cell? w ⟨a.block, _, none⟩ (at_plain (hq 0 (by omega)).1)
    · rw [hll] at hi; rw [hget i hi]; exact at_plain (hq i (by omega)).1
    · rw [hll] at hi; rw [hget i hi, Nat.add_assoc]; exact at_plain (hq i (by omega)).2

/-- How a cell lies in a type of three fields. -/
structure CellT (P : Program) (e tT eP : TypeId) : Prop where
  size : P.cellsOf e = 3
  flds : ∃ f0 f1 f2 : Field, P.underlying e = some (.struct #[f0, f1, f2]) ∧ f0.offset = 0 ∧ f1.offset = 1 ∧ f2.offset = 2 ∧ f0.type = tT ∧ P.underlying f1.type = some (.int .i64) ∧ P.underlying f2.type = some (.int .i64) ∧ P.cellsOf tT = 1 ∧ P.cellsOf f1.type = 1 ∧ P.cellsOf f2.type = 1
  tab : P.underlying tT = some (.slice eP)
  pts : ∃ f0 f1 : Field, P.underlying eP = some (.struct #[f0, f1]) ∧ P.cellsOf eP = 2 ∧ f0.offset = 0 ∧ f1.offset = 1 ∧ P.cellsOf f0.type = 1 ∧ P.cellsOf f1.type = 1 ∧ P.underlying f0.type = some (.int .i64) ∧ P.underlying f1.type = some (.int .i64)

theorem open_cells {t e tT eP : TypeId} {v : Value} {x : DataW H × List MemPlace} (ht : P.underlying t = some (.slice e)) (T : CellT P e tT eP) (h : DataW.trod enc P w 0 (fun _ => true) true fuel t [v] = some x) :
    ∃ (cs : List PCell) (ca : Option Addr) (cb coff cap : Nat), v = .slice ca cs.length cap ∧ CellsAt w ca cb coff cs ∧ ∀ R, (∀ n ∈ x.1.weights P t, n ≤ R) → cs.length * P.bytesOf e ≤ R := by
  obtain ⟨f0, f1, f2, he, o0, o1, o2, rfl, q1, q2, k0, k1, k2⟩ := T.flds
  obtain ⟨p0, p1, pe, pc, po0, po1, pk0, pk1, pq0, pq1⟩ := T.pts
  rcases open_slice ht h with ⟨hv, rfl⟩ | ⟨a, len, cap, m, n, D, Pl, hv, _, hl, _, hm, rfl, hx⟩
  · exact ⟨[], none, 0, 0, 0, by simpa using hv, ⟨fun h => absurd rfl h, fun h => absurd rfl h, fun i hi => by simp at hi⟩, fun R _ => by simp⟩
  · simp only [if_true] at hm
    have each : ∀ i, i < m → ∃ c : PCell, ∃ ta tb toff tcap, PtsAt w ta tb toff c.tab ∧ w.cell? (a.add (i * 3)) = some (.slice ta c.tab.length tcap) ∧ w.cell? (a.add (i * 3 + 1)) = some (.int .i64 c.light) ∧ w.cell? (a.add (i * 3 + 2)) = some (.int .i64 c.drop) := by
      intro i hi
      obtain ⟨cs', g1, g2⟩ := hx i hi
      rw [T.size] at g1
      obtain ⟨_, hlen, hcell⟩ := World.cells?_some g1
      obtain ⟨xs, k, _, _, _, hxl, hf⟩ := DataW.trod_struct he g2
      match xs, hxl, cs', hlen with
      | [y0, y1, y2], _, [v0, v1, v2], _ =>
        have h0 := hf 0 f0 rfl
        have h1 := hf 1 f1 rfl
        have h2 := hf 2 f2 rfl
        simp [o0, k0] at h0
        simp [o1, k1] at h1
        simp [o2, k2] at h2
        have e0 := hcell 0 (by omega)
        have e1 := hcell 1 (by omega)
        have e2 := hcell 2 (by omega)
        rw [add_add] at e0 e1 e2
        obtain ⟨n1, r1, _⟩ := DataW.trod_int q1 h1
        obtain ⟨n2, r2, _⟩ := DataW.trod_int q2 h2
        obtain ⟨ps, ta, tb, toff, tcap, rfl, hp⟩ := open_pts T.tab pe pc po0 po1 pk0 pk1 pq0 pq1 h0
        simp only [List.cons.injEq, and_true] at r1 r2
        subst r1 r2
        exact ⟨⟨ps, n1, n2⟩, ta, tb, toff, tcap, hp, by simpa using e0, by simpa using e1, by simpa using e2⟩
    obtain ⟨q, hq⟩ := choose_lt each
    have hll : ((List.range len).map q).length = len := by simp
    have hget : ∀ i, i < len → ((List.range len).map q).getD i default = q i := fun i hi => by simp [List.getD_eq_getElem?_getD, List.getElem?_map, List.getElem?_range hi]
    refine ⟨(List.range len).map q, some a, a.block, a.off, cap, by rw [hll]; simpa using hv, ⟨fun hne => ?_, fun hne => ?_, fun i hi => ?_⟩, fun R hR => ?_⟩
    · have hpos : 0 < len := by rcases Nat.eq_zero_or_pos len with h | h; exact absurd (by rw [h]; rfl) hne; exact h
      obtain ⟨_, _, _, _, _, g, _⟩ := hq 0 (by omega)
      have := spot_of (by simpa using g)
      obtain ⟨b, o, s⟩ := a
      simp only at this
      subst this
      rfl
    · have hpos : 0 < len := by rcases Nat.eq_zero_or_pos len with h | h; exact absurd (by rw [h]; rfl) hne; exact h
      obtain ⟨_, _, _, _, _, g, _⟩ := hq 0 (by omega)
      exact World.block_lt_of_cell? w ⟨a.block, _, none⟩ (at_plain g)
    · rw [hll] at hi
      rw [hget i hi]
      obtain ⟨ta, tb, toff, tcap, g0, g1, g2, g3⟩ := hq i (by omega)
      exact ⟨ta, tb, toff, tcap, g0, at_plain g1, by rw [Nat.add_assoc]; exact at_plain g2, by rw [Nat.add_assoc]; exact at_plain g3⟩
    · have := hR ((len + (m - len)) * P.bytesOf e) (by simp [DataW.weights, ht])
      rw [hll]
      exact Nat.le_trans (Nat.mul_le_mul_right _ (by omega)) this

theorem weightsAll_has {e : TypeId} : ∀ {l : List (DataW H)} {d : DataW H}, d ∈ l → ∀ n ∈ d.weights P e, n ∈ DataW.weightsAll P e l
  | d0 :: l, d, hd, n, hn => by
    simp only [DataW.weightsAll, List.mem_append]
    rcases List.mem_cons.1 hd with rfl | hd
    · exact .inl hn
    · exact .inr (weightsAll_has hd n hn)
theorem open_field {t tC e tT eP : TypeId} {v : Value} {x : DataW H × List MemPlace} (ht : P.underlying t = some (.slice tC)) (hk : P.cellsOf tC = 1) (hC : P.underlying tC = some (.slice e)) (T : CellT P e tT eP) (h : DataW.trod enc P w 0 (fun _ => true) true fuel t [v] = some x) :
    ∃ (f : List (List PCell)) (a : Option Addr) (b off cap : Nat), v = .slice a f.length cap ∧ FieldAt w a b off f ∧ ∀ R, (∀ n ∈ x.1.weights P t, n ≤ R) → f.length * P.bytesOf tC ≤ R ∧ ∀ cs ∈ f, cs.length * P.bytesOf e ≤ R := by
  rcases open_slice1 ht hk h with ⟨hv, rfl⟩ | ⟨a, len, cap, m, n, V, D, Pl, hv, _, hl, _, hm, rfl, hx⟩
  · exact ⟨[], none, 0, 0, 0, by simpa using hv, ⟨fun h => absurd rfl h, fun h => absurd rfl h, fun i hi => by simp at hi⟩, fun R _ => ⟨by simp, fun cs hcs => by simp at hcs⟩⟩
  · simp only [if_true] at hm
    have each : ∀ i, i < m → ∃ cs : List PCell, ∃ ca cb coff ccap, CellsAt w ca cb coff cs ∧ w.cell? (a.add i) = some (.slice ca cs.length ccap) ∧ ∀ R, (∀ n ∈ (D i).weights P tC, n ≤ R) → cs.length * P.bytesOf e ≤ R := by
      intro i hi
      obtain ⟨g1, g2⟩ := hx i hi
      obtain ⟨cs, ca, cb, coff, ccap, hv, hc, hR⟩ := open_cells hC T g2
      exact ⟨cs, ca, cb, coff, ccap, hc, by rw [g1, hv], hR⟩
    obtain ⟨q, hq⟩ := choose_lt each
    have hll : ((List.range len).map q).length = len := by simp
    have hget : ∀ i, i < len → ((List.range len).map q).getD i [] = q i := fun i hi => by simp [List.getD_eq_getElem?_getD, List.getElem?_map, List.getElem?_range hi]
    refine ⟨(List.range len).map q, some a, a.block, a.off, cap, by rw [hll]; simpa using hv, ⟨fun hne => ?_, fun hne => ?_, fun i hi => ?_⟩, fun R hR => ⟨?_, fun cs hcs => ?_⟩⟩
    · have hpos : 0 < len := by rcases Nat.eq_zero_or_pos len with h | h; exact absurd (by rw [h]; rfl) hne; exact h
      obtain ⟨_, _, _, _, _, g, _⟩ := hq 0 (by omega)
      have := spot_of (by simpa using g)
      obtain ⟨b, o, s⟩ := a
      simp only at this
      subst this
      rfl
    · have hpos : 0 < len := by rcases Nat.eq_zero_or_pos len with h | h; exact absurd (by rw [h]; rfl) hne; exact h
      obtain ⟨_, _, _, _, _, g, _⟩ := hq 0 (by omega)
      exact World.block_lt_of_cell? w ⟨a.block, _, none⟩ (at_plain g)
    · rw [hll] at hi
      rw [hget i hi]
      obtain ⟨ca, cb, coff, ccap, g0, g1, _⟩ := hq i (by omega)
      exact ⟨ca, cb, coff, ccap, g0, at_plain g1⟩
    · have := hR ((len + (m - len)) * P.bytesOf tC) (by simp [DataW.weights, ht])
      rw [hll]
      exact Nat.le_trans (Nat.mul_le_mul_right _ (by omega)) this
    · obtain ⟨i, hi, rfl⟩ := List.mem_map.1 hcs
      have hi2 := List.mem_range.1 hi
      obtain ⟨_, _, _, _, _, _, g⟩ := hq i (by omega)
      refine g R fun n hn => hR n ?_
      simp only [DataW.weights, ht, List.mem_cons, List.mem_append]
      exact .inr (.inl (weightsAll_has (List.mem_map.2 ⟨i, hi, rfl⟩) n hn))
end
end Go.Proofs.Ytencdgmcpnbfcaa
