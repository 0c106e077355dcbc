/- the top package: a field of the reference as one of the program. -/
import Derived.Test.YtencdgmcpnbfcaaTopA
namespace Go.Proofs.Ytencdgmcpnbfcaa
open Go.RowKit
set_option maxHeartbeats 2000000
set_option maxRecDepth 100000

/-- The k-th cell among those that a row holds: its points lay there before. -/
def CellQ (w1 : World) (us : List Value) (i : Nat) (c : PCell) : Prop :=
  ∃ ta tb toff tcap, PtsAt w1 ta tb toff c.tab ∧ us[i * 3]? = some (.slice ta c.tab.length tcap) ∧ us[i * 3 + 1]? = some (.int .i64 c.light) ∧ us[i * 3 + 2]? = some (.int .i64 c.drop)
theorem CellQ.next {w1 : World} {us : List Value} {j : Nat} {cs : List PCell} {c : PCell} {ta : Option Addr} {tb toff tcap : Nat} (hul : us.length = j * 3) (hcu : ∀ t, t < j → CellQ w1 us t (cs.getD t default)) (hc : cs.getD j default = c)
    (hp : PtsAt w1 ta tb toff c.tab) : ∀ t, t < j + 1 → CellQ w1 (us ++ [.slice ta c.tab.length tcap, .int .i64 c.light, .int .i64 c.drop]) t (cs.getD t default) := by
  intro t ht
  by_cases e : t = j
  · subst e
    rw [hc]
    exact ⟨ta, tb, toff, tcap, hp, by rw [← hul, List.getElem?_append_right (by omega)]; simp, by rw [← hul, List.getElem?_append_right (by omega)]; simp, by rw [← hul, List.getElem?_append_right (by omega)]; simp⟩
  · obtain ⟨a1, b1, o1, c1, h0, h1, h2, h3⟩ := hcu t (by omega)
    have k1 := (List.getElem?_eq_some_iff.1 h1).1
    have k2 := (List.getElem?_eq_some_iff.1 h2).1
    have k3 := (List.getElem?_eq_some_iff.1 h3).1
    exact ⟨a1, b1, o1, c1, h0, by rw [List.getElem?_append_left k1]; exact h1, by rw [List.getElem?_append_left k2]; exact h2, by rw [List.getElem?_append_left k3]; exact h3⟩
def ChainQ (w1 w : World) (e : TypeId) (base : Nat) (v : Value) (cs : List PCell) : Prop := ∃ us, w.ownsRow base e 3 v cs.length us ∧ ∀ i, i < cs.length → CellQ w1 us i (cs.getD i default)
theorem ChainQ.ext {w1 w w' : World} {e : TypeId} {base : Nat} {v : Value} {cs : List PCell} (h : ChainQ w1 w e base v cs) (x : Ext w w') : ChainQ w1 w' e base v cs :=
  let ⟨us, h1, h2⟩ := h; ⟨us, owns_ext h1 x, h2⟩
theorem ChainQ.kept {w1 w w' : World} {e eO : TypeId} {base baseO sO nO : Nat} {v vO : Value} {xsO : List Value} {cs : List PCell} (h : ChainQ w1 w e base v cs) (hO : w.ownsRow baseO eO sO vO nO xsO) (hg : w.grownBy w' vO.ownBlock) (n1 : e ≠ eO) : ChainQ w1 w' e base v cs :=
  let ⟨us, h1, h2⟩ := h; ⟨us, h1.kept hg (row_ne h1 hO n1), h2⟩
theorem ChainQ.base {w1 w : World} {e : TypeId} {base base' : Nat} {v : Value} {cs : List PCell} (h : ChainQ w1 w e base v cs) (hb : base' ≤ base) : ChainQ w1 w e base' v cs :=
  let ⟨us, h1, h2⟩ := h; ⟨us, base_le h1 hb, h2⟩
theorem ChainQ.next {w1 W w' : World} {base eO eR : Nat} {vO v : Value} {vs : List Value} {k : Nat} {f : List (List PCell)} {cs : List PCell} {tmp : Obj} (n1 : eR ≠ eO) (hown : W.ownsRow base eO 1 vO k vs) (hvl : vs.length = k) (hch : ∀ j, j < k → ∃ u, vs[j]? = some u ∧ ChainQ w1 W eR base u (f.getD j []))
    (hc : f.getD k [] = cs) (hv : ChainQ w1 W eR base v cs) (hg : (W.alloc tmp).grownBy w' vO.ownBlock) : ∀ j, j < k + 1 → ∃ u, (vs ++ [v])[j]? = some u ∧ ChainQ w1 w' eR base u (f.getD j []) := by
  have hx := (Ext.refl W).alloc tmp
  have hown2 := owns_ext hown hx
  intro j hj
  by_cases e : j = k
  · subst e
    exact ⟨v, by rw [List.getElem?_append_right (by omega)]; simp [hvl], by rw [hc]; exact (hv.ext hx).kept hown2 hg n1⟩
  · obtain ⟨u, h1, h2⟩ := hch j (by omega)
    exact ⟨u, by rw [List.getElem?_append_left (by omega)]; exact h1, (h2.ext hx).kept hown2 hg n1⟩
theorem cellsAt_ownedP {w1 w : World} {e : TypeId} {base : Nat} {v : Value} {cs : List PCell} (h : ChainQ w1 w e base v cs) (x : Ext w1 w) : ∃ ca cb ccap, v = .slice ca cs.length ccap ∧ CellsAt w ca cb 0 cs := by
  obtain ⟨us, h1, h2⟩ := h
  rcases h1.2 with ⟨rfl, h0⟩ | ⟨g, cap, cur, rfl, hg, hh, hle, hml, hsz, htk⟩
  · have : cs = [] := by simpa using h0
    subst this
    exact ⟨none, 0, 0, rfl, ⟨fun h => absurd rfl h, fun h => absurd rfl h, fun i hi => by simp at hi⟩⟩
  · have hget : ∀ j u, j < cs.length * 3 → us[j]? = some u → w.cell? ⟨g, j, none⟩ = some u := by
      intro j u hj hu
      rw [← htk, List.getElem?_take_of_lt hj] at hu
      simp [World.cell?, hh]
      simpa using hu
    refine ⟨some ⟨g, 0, none⟩, g, cap, rfl, fun _ => rfl, fun _ => (Array.getElem?_eq_some_iff.1 hh).1, fun i hi => ?_⟩
    obtain ⟨ta, tb, toff, tcap, k1, k2, k3, k4⟩ := h2 i hi
    rw [Nat.zero_add]
    exact ⟨ta, tb, toff, tcap, k1.mono x, hget _ _ (by omega) k2, hget _ _ (by omega) k3, hget _ _ (by omega) k4⟩
theorem fieldAt_ownedP {w1 w : World} {e e3 : TypeId} {base g n cap : Nat} {vs : List Value} {f : List (List PCell)} (h : w.ownsRow base e3 1 (.slice (some ⟨g, 0, none⟩) n cap) f.length vs) (hc : ∀ j, j < f.length → ∃ u, vs[j]? = some u ∧ ChainQ w1 w e base u (f.getD j [])) (x : Ext w1 w) : FieldAt w (some ⟨g, 0, none⟩) g 0 f := by
  rcases h.2 with ⟨h, h0⟩ | ⟨g', cap', cur, hv, hg, hh, hle, hml, hsz, htk⟩
  · cases h
  · cases hv
    refine ⟨fun _ => rfl, fun _ => (Array.getElem?_eq_some_iff.1 hh).1, fun i hi => ?_⟩
    obtain ⟨u, k1, k2⟩ := hc i hi
    obtain ⟨ca, cb, ccap, rfl, hp⟩ := cellsAt_ownedP k2 x
    refine ⟨ca, cb, 0, ccap, hp, ?_⟩
    rw [← htk, List.getElem?_take_of_lt (by omega)] at k1
    rw [Nat.zero_add]
    simp [World.cell?, hh]
    simpa using k1
theorem infoCC : (Try.prog.info? 53).map (fun i => (i.zero, i.size, i.bytes)) = some (some (.agg #[.slice none 0 0, .int .i64 0, .int .i64 0]), 3, 40) := by kernel_rfl
theorem infoCL : (Try.prog.info? 54).map (fun i => (i.zero, i.size, i.bytes)) = some (some (.slice none 0 0), 1, 24) := by kernel_rfl

theorem field_top (f : List (List PCell)) (a : Option Addr) (b off cap : Nat) (w : World) (ok : FieldOk' f) (H : FieldAt w a b off f) :
    Calls Try.prog 7 #[.slice a f.length cap] w fun r w' => ∃ a' b' cap', r = .returned (.slice a' f.length cap') ∧ FieldAt w' a' b' 0 f ∧ Ext w w' := by
  have h1 := ok.1
  have h2 := ok.2.1
  have h3 := ok.2.2
  go_enter Try.func7, Try.ntmps7
  go_wp2_with fail
  refine (own_ref f a b off cap _ ok H).mono ?_
  rintro e w1 ⟨a', b', cap', rfl, H1, hx1⟩
  go_wp2_with fail
  go_loopw [3, 12] (fun v i wr => ∃ (k : Nat) (vs : List Value), k ≤ f.length ∧ i = .int .i64 k ∧ vs.length = k ∧ wr.ownsRow w1.heap.size 54 1 v k vs ∧ (∀ j, j < k → ∃ u, vs[j]? = some u ∧ ChainQ w1 wr 53 w1.heap.size u (f.getD j [])) ∧ Ext w1 wr) (fun _ i _ => f.length - (intOf i).toNat)
  case atStart => exact ⟨0, [], Nat.zero_le _, rfl, rfl, owns_nil _ _ _ _, fun j hj => by omega, Ext.refl _⟩
  case round =>
    obtain ⟨k, vs, hk, rfl, hvl, hown, hch, hx⟩ := hrel
    have Hvl := Lib.hid hvl
    have Hch := Lib.hid hch
    clear hvl hch
    have hidx := FieldAt.idx Try.underlying22 szChainR H1 cap' k
    by_cases hlt : k < f.length
    · have hH := H1.mono hx
      have hne : f ≠ [] := by rintro rfl; simp at hlt
      obtain ⟨ca, cb, coff, ccap, hC1, hcc1⟩ := H1.cell k hlt
      have hcc := keep_ext hx (H1.lt hne) hcc1
      simp only [Nat.zero_add] at hcc hidx
      have hmem := h3 (f.getD k []) (by simp [List.getD_eq_getElem?_getD, hlt])
      generalize hcs : f.getD k [] = cs at *
      have Hcs := Lib.hid hcs
      clear hcs
      have hm1 := hmem.1
      have hm2 := hmem.2.1
      have Hm := Lib.hid hmem.2.2
      clear hmem
      obtain ⟨wo, hwo⟩ : ∃ wo : World, wo = wr := ⟨_, rfl⟩
      subst hwo
      go_wp2_with fail
      go_loopw [6, 18] (fun v i wx => ∃ (j : Nat) (us : List Value), j ≤ cs.length ∧ i = .int .i64 j ∧ us.length = j * 3 ∧ wx.ownsRow wo.heap.size 53 3 v j us ∧ (∀ t, t < j → CellQ w1 us t (cs.getD t default)) ∧ Ext wo wx) (fun _ i _ => cs.length - (intOf i).toNat)
      case atStart => exact ⟨0, [], Nat.zero_le _, rfl, rfl, owns_nil _ _ _ _, fun t ht => by omega, Ext.refl _⟩
      case round =>
        obtain ⟨j, us, hj, rfl, hul, hownI, hcu, hxr⟩ := hrel
        have Hul := Lib.hid hul
        have Hcu := Lib.hid hcu
        clear hul hcu
        have hidj := CellsAt.idx Try.underlying46 szCellR hC1 ccap j
        by_cases hjl : j < cs.length
        · have hcne : cs ≠ [] := by rintro rfl; simp at hjl
          obtain ⟨ta, tb, toff, tcap, hP, c1, c2, c3⟩ := hC1.cell j hjl
          have d1 := keep_ext (hx.trans hxr) (hC1.lt hcne) c1
          have d2 := keep_ext (hx.trans hxr) (hC1.lt hcne) c2
          have d3 := keep_ext (hx.trans hxr) (hC1.lt hcne) c3
          clear c1 c2 c3
          generalize hcc0 : cs.getD j default = c at *
          have Hc0 := Lib.hid hcc0
          clear hcc0
          go_wp2_with (at_builtin; refine append_newG _ rfl (.tmp 22) (.tmp 30) 54 rfl wo.heap.size 53 (.agg #[.slice none 0 0, .int .i64 0, .int .i64 0]) 3 40 Try.underlying54 infoCC rfl (by decide) _ _ _ rfl (owns_ext hownI ((Ext.refl _).alloc _)) _ 1 rfl (by simp) rfl (by simp [Value.oneCell']) (by simp [maxLen]; omega) (by omega) (hxr.alloc _).size ?_; intro v' w4 hown4 hg4)
          exact ⟨⟨j + 1, _, hjl, by go_num, by simp [Hul.out]; omega, hown4, CellQ.next Hul.out Hcu.out Hc0.out hP, grown_ext (hxr.alloc _) (owns_ext hownI ((Ext.refl _).alloc _)) (Nat.le_refl _) hg4⟩, by simp [intOf]; omega⟩
        · obtain rfl : j = cs.length := by omega
          obtain ⟨g5, cap5, rfl⟩ := owns_some hownI (by omega)
          have hChain : Hid (ChainQ w1 wr 53 w1.heap.size (.slice (some ⟨g5, 0, none⟩) cs.length cap5) cs) := ChainQ.base ⟨us, hownI, Hcu.out⟩ hx.size
          go_wp2_with (at_builtin; refine append_newG _ rfl (.tmp 33) (.tmp 35) 29 rfl w1.heap.size 54 (.slice none 0 0) 1 24 Try.underlying29 infoCL rfl (by decide) _ _ _ rfl (owns_ext hown hxr) _ 1 rfl (by simp) rfl (by simp [Value.oneCell']) (by simp [maxLen]; omega) (by omega) (hx.trans hxr).size ?_; intro v' w4 hown4 hg4)
          exact ⟨⟨k + 1, _, hlt, by go_num, by simp [Hvl.out], hown4, ChainQ.next (by decide) (owns_ext hown hxr) Hvl.out (fun t ht => (Hch.out t ht).imp fun u hu => ⟨hu.1, hu.2.ext hxr⟩) Hcs.out hChain.out hg4, grown_ext (hx.trans hxr) (owns_ext hown hxr) (Nat.le_refl _) hg4⟩, by simp [intOf]; omega⟩
    · obtain rfl : k = f.length := by omega
      obtain ⟨g3, cap3, rfl⟩ := owns_some hown (by omega)
      have hF : Hid (FieldAt wr (some ⟨g3, 0, none⟩) g3 0 f) := fieldAt_ownedP hown Hch.out hx
      go_wp2
      go_ret
      exact ⟨_, _, _, rfl, hF.out, hx1.trans hx⟩
end Go.Proofs.Ytencdgmcpnbfcaa
