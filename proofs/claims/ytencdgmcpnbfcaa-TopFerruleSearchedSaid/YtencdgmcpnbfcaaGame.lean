/- the top package: what the law leans on, plainly. -/
import Derived.Test.YtencdgmcpnbfcaaLaw
import Derived.BigFrame
namespace Go.Proofs.Ytencdgmcpnbfcaa
open Go.RowKit
set_option maxHeartbeats 1000000

theorem ints_news {w : World} {a : Option Addr} {b off : Nat} {xs : List Int} (h : IntsAt w a b off xs) (j : Nat) (u : Value) (hj : (xs.map (Value.int .i64))[j]? = some u) : w.cell? ((⟨b, off, none⟩ : Addr).add j) = some u := by
  have hlt : j < xs.length := by simpa using (List.getElem?_eq_some_iff.1 hj).1
  have e : (⟨b, off, none⟩ : Addr).add j = ⟨b, off + j, none⟩ := by simp only [Addr.add]; split <;> simp_all
  rw [e, h.cell j hlt]
  simp only [List.getElem?_map, List.getElem?_eq_getElem hlt, Option.map_some] at hj
  rw [← hj, List.getD_eq_getElem?_getD, List.getElem?_eq_getElem hlt]; rfl
theorem ints_one (xs : List Int) : ∀ u ∈ xs.map (Value.int .i64), u.oneCell' = true := by
  intro u hu
  obtain ⟨x, _, rfl⟩ := List.mem_map.1 hu
  rfl

structure Game (f : List (List PCell)) (l : List Int) (P : List Int) (n j : Nat) : Prop where
  e : (n : Int) = endL f
  le : n ≤ 60
  hl : l = curveL f (n + 1)
  hP : P = powI l (n + 1)
  len : P.length = n + 1
  tab : VTab P
  lt : j < P.length
  hi : hiL (fieldPowers f (n + 1)) = ((j : Int), P.getD j 0)
  max : ∀ i, i < P.length → P.getD i 0 ≤ P.getD j 0
  fst : ∀ i, i < j → P.getD i 0 < P.getD j 0
theorem endL_60 {f : List (List PCell)} (ok : SmallOk f) : endL f ≤ 60 := by
  have h1 := ok.1.1
  have := (maxL_spec (f.map fun cs => chainVoltL cs 0) (by simp; omega)).1
  obtain ⟨cs, hcs, e⟩ := List.mem_map.1 this
  have := (ok.2.2 cs hcs).2
  unfold endL
  omega
theorem game {f : List (List PCell)} (ok : SmallOk f) : ∃ l P n j, Game f l P n j := by
  have h0 := endL_bound ok.1
  have h60 := endL_60 ok
  obtain ⟨n, hn⟩ := Int.eq_ofNat_of_zero_le h0.1
  have hf6 := ok.1.2.1
  obtain ⟨j, hj, hhi, hmx, hfs⟩ := hi_spec (curveL f (n + 1)) (n + 1) (by omega)
  have hlen := powI_length (curveL f (n + 1)) (n + 1)
  have hg : ∀ i, i < n + 1 → (powI (curveL f (n + 1)) (n + 1)).getD i 0 = (i : Int) * (curveL f (n + 1)).getD i 0 := fun i hi => powI_get _ _ i hi
  have hb : ∀ i, i < n + 1 → 0 ≤ (powI (curveL f (n + 1)) (n + 1)).getD i 0 ∧ (powI (curveL f (n + 1)) (n + 1)).getD i 0 ≤ 1000000 := by
    intro i hi
    rw [hg i hi]
    have hs := curveL_small f hf6 (n + 1) i hi
    refine ⟨Int.mul_nonneg (by omega) hs.1, ?_⟩
    have := Int.mul_le_mul (show (i : Int) ≤ 60 by omega) hs.2 hs.1 (by omega)
    omega
  refine ⟨_, _, n, j, ⟨hn.symm, by omega, rfl, rfl, hlen, ⟨by omega, by omega, fun i hi => (hb i (by omega)).1, fun i hi => (hb i (by omega)).2⟩, by omega, ?_, fun i hi => ?_, fun i hi => ?_⟩⟩
  · rw [hg j hj]; exact hhi
  · rw [hg j hj, hg i (by omega)]; exact hmx i (by omega)
  · rw [hg j hj, hg i (by omega)]; exact hfs i (by omega)
theorem Game.small {f : List (List PCell)} {l P : List Int} {n j : Nat} (g : Game f l P n j) (hf6 : f.length ≤ 6) : P.getD j 0 ≤ 72000 := by
  have hj := g.lt
  have hlen := g.len
  have hle := g.le
  rw [g.hP, powI_get _ _ _ (by omega), g.hl]
  have hs := curveL_small f hf6 (n + 1) j (by omega)
  have := Int.mul_le_mul (show (j : Int) ≤ 60 by omega) hs.2 hs.1 (by omega)
  omega
/-- The highest is the first with the greatest integer. -/
theorem Game.maxL {f : List (List PCell)} {l P : List Int} {n j : Nat} (g : Game f l P n j) : P.getD j 0 = maxL P := by
  obtain ⟨h1, h2⟩ := maxL_spec P (by have := g.tab.one; omega)
  have hj := g.lt
  obtain ⟨i, hi, e⟩ := List.getElem_of_mem h1
  have a := g.max i hi
  have b := h2 (P.getD j 0) (by rw [List.getD_eq_getElem?_getD, List.getElem?_eq_getElem hj]; exact List.getElem_mem hj)
  rw [List.getD_eq_getElem?_getD, List.getElem?_eq_getElem hi] at a
  simp only [Option.getD_some, e] at a
  omega
theorem Game.firstMax {f : List (List PCell)} {l P : List Int} {n j : Nat} (g : Game f l P n j) : ∀ i, i < j → P.getD i 0 ≠ Go.Proofs.Ytencdgmcpnbfcaa.maxL P := by
  intro i hi
  rw [← g.maxL]
  have := g.fst i hi
  omega
/-- .. where a guard lets it. -/
theorem append_copyW {P : Program} {ops : Array Oper} {rest : List Oper} {o : Oper} {a : Act} {Q : Exit → Act → World → Prop} {T : TypeId} (w : World) (hw : Region.wanted o (yielded ops a.tmps) = true) (s x : Operand) (t : TypeId)
    (ho : o.op = .call { callee := .builtin .append, args := #[s, x], argTypes := #[t, t] }) (e : TypeId) (hT : T = e) (z : Value) (size bytes : Nat) (ht : P.underlying t = some (.slice e))
    (hinfo : (P.info? e).map (fun i => (i.zero, i.size, i.bytes)) = some (some z, size, bytes)) (hzs : z.cells.size = size) (hsz : 0 < size)
    (n0 : Nat) (hs : a.eval s = .slice (some ⟨n0, 0, none⟩) 0 0) (hn0 : n0 = w.heap.size) (ad : Addr) (m c : Nat) (news : List Value) (hx : a.eval x = .slice (some ad) m c) (hlt : ad.block < w.heap.size)
    (hl : news.length = m * size) (hnews : ∀ j u, news[j]? = some u → w.cell? (ad.add j) = some u) (h1 : ∀ u ∈ news, u.oneCell' = true) (h63 : m ≤ maxLen) (hbytes : m * bytes ≤ 140737488355328)
    (h : ∀ v' w', w'.ownsRow w.heap.size e size v' m news → Ext w w' → wpList P ops Q rest (a.put o.dst v') w') :
    wpList P ops Q (o :: rest) a (w.alloc (.cells #[] T)) := by
  subst hT hn0
  obtain ⟨i, hi, hz0, hz1, hz2⟩ := info_parts hinfo
  have hown : (w.alloc (.cells #[] T)).ownsRow w.heap.size T size (.slice (some ⟨w.heap.size, 0, none⟩) 0 0) 0 [] := World.ownsRow_made w #[] 0 (Nat.le_refl _) (by simp [maxLen]) (by simp)
  refine BigFrame.wpList_want hw fun K hK => ?_
  refine wp_append_own (w.alloc (.cells #[] T)) s x t ho w.heap.size T i z size bytes ht hi hz0 hz1 hz2 hzs hsz _ 0 [] hs hown ad m c news hx hl (fun j u hj => ?_) h1 (by omega) (by simpa using hbytes) (by simp) fun v' w' h2 h3 _ => hK _ _ ?_
  · have hb : (ad.add j).block < w.heap.size := by simp only [Addr.add]; split <;> exact hlt
    rw [((Ext.refl w).alloc (.cells #[] T)).cell hb]; exact hnews j u hj
  · rw [Nat.zero_add, List.nil_append] at h2
    refine h v' w' h2 ?_
    exact Ext.of (((Below.refl _ w).alloc (Nat.le_refl _) _).grown h3 (by simp) (fun k e => by simp [Value.ownBlock] at e; omega))
/-- Each peak of the field: it lies in the table, it is a peak of the table, and no greater than the greatest. -/
theorem Game.peaks {f : List (List PCell)} {l P : List Int} {n j : Nat} (g : Game f l P n j) {pk al : List Nat} (hpk : pk = peaksOf f (n + 1)) (hal : al = (List.range P.length).filter (peakB P)) (k : Nat) (hk : k < pk.length) :
    pk.getD k 0 < P.length ∧ hasL (natInts al) ((pk.getD k 0 : Nat) : Int) = true := by
  have hm : pk.getD k 0 ∈ peaksOf f (n + 1) := by rw [← hpk, List.getD_eq_getElem?_getD, List.getElem?_eq_getElem hk]; exact List.getElem_mem hk
  rw [peaksOf, List.mem_filter, List.mem_range] at hm
  have hlen := g.len
  have h1 : curPeakB (powersL l (n + 1)) (pk.getD k 0) = true := by rw [g.hl]; exact hm.2
  have h2 := peak_in hm.1 h1
  rw [← g.hP] at h2
  refine ⟨by omega, decide_eq_true ?_⟩
  rw [hal, natInts]
  exact List.mem_map.2 ⟨_, List.mem_filter.2 ⟨List.mem_range.2 (by omega), h2⟩, rfl⟩
theorem Game.topIn {f : List (List PCell)} {l P : List Int} {n j : Nat} (g : Game f l P n j) {pk : List Nat} (hpk : pk = peaksOf f (n + 1)) (hpos : 0 < P.getD j 0) : hasL (natInts pk) (j : Int) = true := by
  have hlen := g.len
  have hj := g.lt
  refine decide_eq_true ?_
  rw [hpk, natInts]
  refine List.mem_map.2 ⟨j, ?_, rfl⟩
  rw [peaksOf, List.mem_filter, List.mem_range]
  refine ⟨by omega, ?_⟩
  rw [fieldPowers, ← g.hl]
  have hP := g.hP
  refine top_peak (by omega) (fun i hi => ?_) (fun i hi => ?_) ?_
  · rw [← hP]; exact g.max i (by omega)
  · rw [← hP]; exact g.fst i hi
  · rw [← hP]; exact hpos
theorem Game.hilly {f : List (List PCell)} {l P : List Int} {n j : Nat} (g : Game f l P n j) (h : HillP P P.length) : Hilly P j := Go.Proofs.Ytencdgmcpnbfcaa.hilly h g.lt g.max
theorem Game.onePeak {f : List (List PCell)} {l P : List Int} {n j : Nat} (g : Game f l P n j) {pk : List Nat} (hpk : pk = peaksOf f (n + 1)) (h : HillP P P.length) (hpos : 0 < P.getD j 0) : pk.length = 1 := by
  have hh := g.hilly h
  have hP := g.hP
  rw [hP] at hh hpos
  have := hill_one hh hpos
  rw [hpk, peaksOf, fieldPowers, ← g.hl, this]
  rfl
/-- The visits: one after another. -/
theorem visits_facts {P : List Int} {s : Nat × Int} (ok : StateOk P s) (m k : Nat) (hk : k + 1 ≤ m) :
    ∃ pa pb : Nat, (visL P s m).getD k 0 = (pa : Int) ∧ (visL P s m).getD (k + 1) 0 = (pb : Int) ∧ pa < P.length ∧ pb < P.length ∧ pb ≤ pa + 1 ∧ pa ≤ pb + 1 ∧
      (k + 2 ≤ m → ∃ pc : Nat, (visL P s m).getD (k + 2) 0 = (pc : Int) ∧ (pb ≠ pa → pc = pa → P.getD pb 0 < P.getD pa 0)) := by
  have o1 := visAt_ok ok k
  have o2 := visAt_ok ok (k + 1)
  refine ⟨_, _, visL_get P s m k (by omega), visL_get P s m (k + 1) (by omega), o1.1, o2.1, ?_, ?_, fun h => ⟨_, visL_get P s m (k + 2) h, fun h1 h2 => no_turn P _ o1 h1 h2⟩⟩
  · have := visStep_near P _ o1
    have h2 := o1.2
    show (visStep P (visAt P s k)).1 ≤ _
    omega
  · have := visStep_near P _ o1
    have h2 := o1.2
    show _ ≤ (visStep P (visAt P s k)).1 + 1
    omega
end Go.Proofs.Ytencdgmcpnbfcaa
