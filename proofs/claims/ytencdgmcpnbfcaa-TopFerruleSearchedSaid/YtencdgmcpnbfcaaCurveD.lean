/- curve: the voltages of a chain by its currents, its currents, and the curve of a field. -/
import Derived.Test.YtencdgmcpnbfcaaCurveC
import Derived.Test.YtencdgmcpnbfcaaArr
namespace Go.Proofs.Ytencdgmcpnbfcaa
open Go.RowKit
set_option maxHeartbeats 2000000
set_option maxRecDepth 100000

theorem infoInt : (Try.prog.info? 3).map (fun i => (i.zero, i.size, i.bytes)) = some (some (.int .i64 0), 1, 8) := by kernel_rfl
theorem zeroInt (w : World) : (zeroValue 3).run Try.prog w = .ok (.int .i64 0) w := by kernel_rfl
abbrev MapII := MapI Try.prog 3 3
theorem wf_small (x : Int) (h1 : -1000000000000 ≤ x) (h2 : x ≤ 1000000000000) : (Lit.int .i64 x).wf = true := WalkArith.wf_i64 ⟨by omega, by omega⟩

theorem volts_curve (cs : List PCell) (a : Option Addr) (b off cap : Nat) (w : World) (hl : cs.length ≤ 8) (ok : ∀ c ∈ cs, CellOk c) (H : CellsAt w a b off cs) :
    Calls Try.prog 66 #[.slice a cs.length cap] w fun r w' => ∃ m n, r = .returned (.map (some m)) ∧ MapII w' m n (voltsF cs cs.length 0) ∧ Ext w w' := by
  have hmm := @run_makeMap Try.prog
  go_enter Try.func66, Try.ntmps66
  go_wp2
  go_loopw [13] (fun i wr => ∃ k n : Nat, k ≤ cs.length ∧ n ≤ 201 * k ∧ i = .int .i64 k ∧ MapII wr w.heap.size n (voltsF cs k 0) ∧ Ext w wr) (fun i _ => cs.length - (intOf i).toNat)
  case atStart => exact ⟨0, 0, Nat.zero_le _, Nat.zero_le _, rfl, by rw [voltsF_zero]; exact MapI.made _ _ _ _, (Ext.refl _).alloc _⟩
  case round =>
    obtain ⟨k, n, hk, hn, rfl, hmap, hx⟩ := hrel
    have hm0 := hmap.lt
    have hidx := CellsAt.idx Try.underlying54 szCell H cap k
    by_cases hlt : k < cs.length
    · obtain ⟨ta, tb, toff, tcap, h1, h2, h3, h4⟩ := (H.mono hx).cell k hlt
      have hok := ok (cs.getD k default) (by simp [List.getD_eq_getElem?_getD, hlt])
      have hvn := fun m h0 h1 d hd => voltsF_next cs k m hlt h0 h1 d hd
      have HVN := Lib.hid hvn
      clear hvn
      have hlb := lastL_bound hok
      have htwo := hok.tab.two
      have height := hok.tab.eight
      generalize hcg : cs.getD k default = c at *
      clear hcg
      go_wp2_with fail
      refine (last_curve c.tab ta tb toff tcap _ (by omega) (by omega) (h1.mono ((Ext.refl _).alloc _))).mono ?_
      rintro e w1 ⟨rfl, rfl⟩
      unfold lastL at hlb
      obtain ⟨L, hL⟩ := Int.eq_ofNat_of_zero_le hlb.1
      have hL2 := hlb.2
      rw [hL] at hL2
      rw [hL]
      have HL := Lib.hid hL
      have HV : Hid (∀ y : Nat, voltL c y = voltGo c y L) := fun y => by unfold voltL lastL; rw [hL, Int.toNat_natCast]
      clear hL hlb
      have hmk := make_ints (P := Try.prog) 26 3 Try.underlying26 infoInt (L + 1) (by omega) ((L : Int) + 1) (by omega)
      go_wp2_with fail
      obtain ⟨wo, rfl⟩ : ∃ wo : World, wo = wr := ⟨_, rfl⟩
      have hA : Arr ((wo.alloc (.cells #[.slice ta c.tab.length tcap, .int .i64 c.light, .int .i64 c.drop] 53)).alloc (.cells (zeros (L + 1)) 3)) (wo.heap.size + 1) 3 (List.replicate (L + 1) 0) := by
        have := Arr.zeros (wo.alloc (.cells #[.slice ta c.tab.length tcap, .int .i64 c.light, .int .i64 c.drop] 53)) (L + 1) 3
        simpa using this
      go_loopw [24] (fun i wx => ∃ (j : Nat) (xs : List Int), j ≤ L + 1 ∧ i = .int .i64 j ∧ Arr wx (wo.heap.size + 1) 3 xs ∧ xs.length = L + 1 ∧ (∀ t, t < j → xs.getD t 0 = curL c t) ∧ Ext (wo.alloc (.cells #[.slice ta c.tab.length tcap, .int .i64 c.light, .int .i64 c.drop] 53)) wx) (fun i _ => L + 1 - (intOf i).toNat)
      case atStart => exact ⟨0, _, Nat.zero_le _, rfl, hA, by simp, fun t ht => by omega, (Ext.refl _).alloc _⟩
      case round =>
        obtain ⟨j, xs, hj, rfl, hA, hlen, hfill, hxx⟩ := hrel
        have f1 := XW.cell_new (o := 0) rfl ⟨wr, hxx⟩
        have f2 := XW.cell_new (o := 1) rfl ⟨wr, hxx⟩
        have f3 : wr.cell? ⟨wo.heap.size, 2, none⟩ = some (.int .i64 c.drop) := XW.cell_new (o := 2) rfl ⟨wr, hxx⟩
        have hxo : Ext wo wr := ((Ext.refl wo).alloc _).trans hxx
        have Hfill := Lib.hid hfill
        clear hfill
        by_cases hjl : j < L + 1
        · go_wp2_with fail
          refine (cellCur_curve c j ta tb toff tcap _ hok (by omega) (by omega) (h1.mono hxo)).mono ?_
          rintro e w2 ⟨rfl, hx2⟩
          have hA2 := hA.ext hx2
          have g1 := hA2.cell j (by omega)
          have g2 := hA2.frozen j
          have hjb : (0 : Int) ≤ (j : Int) ∧ (j : Int) < (L : Int) + 1 := by omega
          go_wp2
          exact ⟨⟨j + 1, xs.set j (curL c j), by omega, by go_num, hA2.set j _, by simpa using hlen, fun t ht => by
            by_cases e : t = j
            · subst e; rw [getD_set_same _ _ _ _ (by omega)]
            · rw [getD_set_ne _ _ _ _ _ (Ne.symm e)]; exact Hfill.out t (by omega), (hxx.trans hx2).setCell (by simp) _⟩, by simp [intOf]; omega⟩
        · have hjf : ¬ ((j : Int) < (L : Int) + 1) := by omega
          have hjl' : Hid (∀ t : Nat, t < L + 1 → xs.getD t 0 = curL c t) := fun t ht => Hfill.out t (by omega)
          clear Hfill
          have Hfill := hjl'
          have hmap1 := hmap.ext hxo
          have hxw1 : Ext w wr := hx.trans hxo
          clear hxx f1 f2 hxo hmap hidx hx
          go_wp2_with fail
          have hmlt := hmap1.lt
          have hsz0 : w.heap.size < wo.heap.size := hm0
          go_loopw [8, 37] (fun s8 i wx => ∃ (y N : Nat) (p : Int), y ≤ 201 ∧ N ≤ 201 * k + y ∧ i = .int .i64 y ∧ s8 = .int .i64 p ∧ -1 ≤ p ∧ p ≤ L ∧ goI c y p = voltGo c y L ∧ MapII wx w.heap.size N (voltsF cs k y) ∧ Arr wx (wo.heap.size + 1) 3 xs ∧ wx.cell? ⟨wo.heap.size, 2, none⟩ = some (.int .i64 c.drop) ∧ Ext w wx) (fun _ i _ => 201 - (intOf i).toNat)
          case atStart => exact ⟨0, n, L, by omega, by omega, rfl, rfl, by omega, Int.le_refl _, by rw [goI, if_neg (by omega), Int.toNat_natCast], hmap1, hA, f3, hxw1⟩
          case round =>
            obtain ⟨y, N, p, hy, hN, rfl, rfl, hp0, hp1, hgo, hmap2, hA2, hdr, hxw⟩ := hrel
            have hgo' := Lib.hid hgo
            have hvb := voltsF_bound cs ok hl k y y
            have hdb0 := hok.d0
            have hdb1 := hok.d1
            clear hgo
            by_cases hy1 : y < 201
            · go_wp2_with fail
              go_loop [8] (fun s8 => ∃ q : Int, s8 = .int .i64 q ∧ -1 ≤ q ∧ q ≤ L ∧ goI c y q = voltGo c y L) (fun s8 => (intOf s8 + 1).toNat)
              case atStart => exact ⟨p, rfl, hp0, hp1, hgo'.out⟩
              case round =>
                obtain ⟨q, rfl, hq0, hq1, hgq⟩ := hrel
                have hgq' := Lib.hid hgq
                clear hgq
                by_cases hneg : q < 0
                · obtain rfl : q = -1 := by omega
                  have hd : c.drop = -(voltL c y).1 := by rw [HV.out y, ← hgq'.out]; simp [goI]
                  have Hd := Lib.hid hd
                  clear hd
                  go_wp2_with (first | (at_lookup; refine hmap2.lookup rfl _ _ 110 rfl Try.underlying110 Try.underlying3 Try.underlying3 zeroInt rfl _ rfl (wf_small _ (by omega) (by omega)) ?_; intro _) | (at_mapUpdate; refine hmap2.update rfl _ _ _ 110 rfl Try.underlying110 Try.underlying3 Try.underlying3 rfl (by simp [maxLen]; omega) _ _ rfl rfl (wf_small _ (by omega) (by omega)) (wf_small _ (by omega) (by omega)) ?_; intro w3 hmap3 hgr3))
                  rw [show voltsF cs k y y - c.drop = voltsF cs k y y + (voltL c y).1 from by rw [Hd.out]; omega] at hmap3
                  have e := HVN.out y (by omega) (by omega) _ rfl
                  rw [e] at hmap3
                  exact ⟨⟨y + 1, N + 1, -1, by omega, by omega, by go_num, rfl, by omega, by omega, goI_next c y (-1) L (by omega) (by omega) hgq'.out (.inl (by omega)), hmap3, hA2.grown hgr3 (by simp; omega), (hgr3.cell hdr (by simp; omega)), Below.grown hxw hgr3 hxw.size (fun j hj => by cases hj; exact Nat.le_refl _)⟩, by simp [intOf]; omega⟩
                · obtain ⟨z, rfl⟩ := Int.eq_ofNat_of_zero_le (show 0 ≤ q by omega)
                  have g1 := hA2.cell z (by omega)
                  rw [Hfill.out z (by omega)] at g1
                  have hzb : (0 : Int) ≤ (z : Int) ∧ (z : Int) < (L : Int) + 1 := by omega
                  by_cases hlow : curL c z < y
                  · go_wp2
                    exact ⟨⟨(z : Int) - 1, rfl, by omega, by omega, by rw [← goI_step c y z (by omega) hlow]; exact hgq'.out⟩, by simp [intOf] <;> omega⟩
                  · have hd : (z : Int) = (voltL c y).1 := by rw [HV.out y, ← hgq'.out, goI_here c y z (by omega) (by omega)]
                    have Hd := Lib.hid hd
                    clear hd
                    go_wp2_with (first | (at_lookup; refine hmap2.lookup rfl _ _ 110 rfl Try.underlying110 Try.underlying3 Try.underlying3 zeroInt rfl _ rfl (wf_small _ (by omega) (by omega)) ?_; intro _) | (at_mapUpdate; refine hmap2.update rfl _ _ _ 110 rfl Try.underlying110 Try.underlying3 Try.underlying3 rfl (by simp [maxLen]; omega) _ _ rfl rfl (wf_small _ (by omega) (by omega)) (wf_small _ (by omega) (by omega)) ?_; intro w3 hmap3 hgr3))
                    rw [show voltsF cs k y y + (z : Int) = voltsF cs k y y + (voltL c y).1 from by rw [← Hd.out]] at hmap3
                    have e := HVN.out y (by omega) (by omega) _ rfl
                    rw [e] at hmap3
                    exact ⟨⟨y + 1, N + 1, z, by omega, by omega, by go_num, rfl, by omega, by omega, goI_next c y z L (by omega) (by omega) hgq'.out (.inr (by omega)), hmap3, hA2.grown hgr3 (by simp; omega), (hgr3.cell hdr (by simp; omega)), Below.grown hxw hgr3 hxw.size (fun j hj => by cases hj; exact Nat.le_refl _)⟩, by simp [intOf]; omega⟩
            · obtain rfl : y = 201 := by omega
              go_wp2_with fail
              exact ⟨⟨k + 1, N, by omega, by omega, by go_num, by rw [← voltsF_end]; exact hmap2, hxw⟩, by simp [intOf]; omega⟩
    · obtain rfl : k = cs.length := by omega
      go_wp2
      go_ret
      exact ⟨_, _, rfl, hmap, hx⟩

theorem currents_curve (cs : List PCell) (n : Nat) (a : Option Addr) (b off cap : Nat) (w : World) (hl : cs.length ≤ 8) (ok : ∀ c ∈ cs, CellOk c) (hn : n ≤ 1000) (H : CellsAt w a b off cs) :
    Calls Try.prog 53 #[.slice a cs.length cap, .int .i64 (n : Int)] w fun r w' => ∃ g, r = .returned (.slice (some ⟨g, 0, none⟩) (n + 1) (n + 1)) ∧ IntsAt w' (some ⟨g, 0, none⟩) g 0 (currentsL cs (n + 1)) ∧ w.heap.size ≤ g ∧ Ext w w' := by
  have hmk := make_ints (P := Try.prog) 26 3 Try.underlying26 infoInt (n + 1) (by omega) ((n : Int) + 1) (by omega)
  have HF : Hid (∀ y : Nat, y ≤ 200 → voltsF cs cs.length 0 y = chainVoltL cs y) := fun y hy => by
    rw [voltsF, if_pos (by omega), if_neg (by omega), List.take_of_length_le (Nat.le_refl _)]
  have HB : Hid (∀ y : Int, -80 ≤ chainVoltL cs y ∧ chainVoltL cs y ≤ 800) := fun y => by
    have := chainVolt_bound cs ok y
    omega
  go_enter Try.func53, Try.ntmps53
  go_wp2_with fail
  refine (volts_curve cs a b off cap _ hl ok H).mono ?_
  rintro e w1 ⟨m, N, rfl, hmap, hx1⟩
  go_wp2_with fail
  have hA := Arr.zeros w1 (n + 1) 3
  have hmap1 := hmap.ext ((Ext.refl w1).alloc (.cells (zeros (n + 1)) 3))
  have hml := hmap.lt
  go_loopw [7, 16] (fun s7 i wx => ∃ (v : Nat) (p : Int) (xs : List Int), v ≤ n + 1 ∧ i = .int .i64 v ∧ s7 = .int .i64 p ∧ -1 ≤ p ∧ p ≤ 200 ∧ findI (chainVoltL cs) v p = findI (chainVoltL cs) v 200 ∧ Arr wx w1.heap.size 3 xs ∧ xs.length = n + 1 ∧ (∀ t : Nat, t < v → xs.getD t 0 = curAt cs t) ∧ MapII wx m N (voltsF cs cs.length 0) ∧ Ext w1 wx) (fun _ i _ => n + 1 - (intOf i).toNat)
  case atStart => exact ⟨0, 200, _, Nat.zero_le _, rfl, rfl, by omega, by omega, rfl, hA, by simp, fun t ht => by omega, hmap1, (Ext.refl _).alloc _⟩
  case round =>
    obtain ⟨v, p, xs, hv, rfl, rfl, hp0, hp1, hf, hA, hlen, hfill, hmap, hx⟩ := hrel
    have Hfill := Lib.hid hfill
    have Hf := Lib.hid hf
    clear hfill hf
    by_cases hvl : v < n + 1
    · have hvb : (0 : Int) ≤ (v : Int) ∧ (v : Int) < (n : Int) + 1 := by omega
      go_wp2_with fail
      go_loop [7] (fun s7 => ∃ q : Int, s7 = .int .i64 q ∧ -1 ≤ q ∧ q ≤ 200 ∧ findI (chainVoltL cs) v q = findI (chainVoltL cs) v 200) (fun s7 => (intOf s7 + 1).toNat)
      case atStart => exact ⟨p, rfl, hp0, hp1, Hf.out⟩
      case round =>
        obtain ⟨q, rfl, hq0, hq1, hq⟩ := hrel
        have Hq := Lib.hid hq
        clear hq
        have g1 := hA.cell v (by omega)
        have g2 := hA.frozen v
        by_cases hneg : q < 0
        · obtain rfl : q = -1 := by omega
          have hcur : curAt cs v = 0 := by unfold curAt; rw [← Hq.out, findI, if_pos (by omega)]; rfl
          have Hc := Lib.hid hcur
          clear hcur
          go_wp2
          refine ⟨⟨v + 1, -1, xs.set v 0, by omega, by go_num, rfl, by omega, by omega, findI_next _ _ _ _ (by omega) (by omega) Hq.out (.inl (by omega)), hA.set v 0, by simpa using hlen, fun t ht => ?_, hmap.setCell (by simp; omega) _, hx.setCell (by simp) _⟩, by simp [intOf]; omega⟩
          by_cases e : t = v
          · subst e; rw [getD_set_same _ _ _ _ (by omega), Hc.out]
          · rw [getD_set_ne _ _ _ _ _ (Ne.symm e)]; exact Hfill.out t (by omega)
        · obtain ⟨z, rfl⟩ := Int.eq_ofNat_of_zero_le (show 0 ≤ q by omega)
          have hFz := HF.out z (by omega)
          have HFz := Lib.hid hFz
          have hrun := hmap.run 110 Try.underlying110 Try.underlying3 Try.underlying3 zeroInt (z : Int) (wf_small _ (by omega) (by omega))
          have hvz := hFz ▸ HB.out z
          clear hFz
          by_cases hlow : voltsF cs cs.length 0 z < v
          · have hq2 : findI (chainVoltL cs) v ((z : Int) - 1) = findI (chainVoltL cs) v 200 := by
              rw [← Hq.out, find_step _ _ (z : Int) (by omega), if_neg (by rw [← HFz.out]; omega)]
            have Hq2 := Lib.hid hq2
            clear hq2
            go_wp2
            exact ⟨⟨(z : Int) - 1, rfl, by omega, by omega, Hq2.out⟩, by simp [intOf] <;> omega⟩
          · have hhere : (v : Int) ≤ chainVoltL cs z := by rw [← HFz.out]; omega
            have hcur : curAt cs v = (if 0 < z then (z : Int) else 0) := by
              unfold curAt; rw [← Hq.out, find_step _ _ (z : Int) (by omega), if_pos hhere]; split <;> omega
            have Hc := Lib.hid hcur
            have Hh := Lib.hid hhere
            clear hcur hhere
            go_wp2
            refine ⟨⟨v + 1, z, xs.set v (if 0 < z then (z : Int) else 0), by omega, by go_num, rfl, by omega, by omega, findI_next _ _ _ _ (by omega) (by omega) Hq.out (.inr Hh.out), hA.set v _, by simpa using hlen, fun t ht => ?_, hmap.setCell (by simp; omega) _, hx.setCell (by simp) _⟩, by simp [intOf]; omega⟩
            by_cases e : t = v
            · subst e; rw [getD_set_same _ _ _ _ (by omega), Hc.out]
            · rw [getD_set_ne _ _ _ _ _ (Ne.symm e)]; exact Hfill.out t (by omega)
    · have hvf : ¬ ((v : Int) < (n : Int) + 1) := by omega
      have hxs : xs = currentsL cs (n + 1) := by
        refine ext_getD _ _ (by simp [currentsL, hlen]) fun t ht => ?_
        rw [Hfill.out t (by omega)]
        simp [currentsL, List.getD_eq_getElem?_getD, List.getElem?_map, List.getElem?_range (show t < n + 1 by omega)]
      have Hxs := Lib.hid hxs
      clear hxs
      go_wp2
      go_ret
      exact ⟨_, rfl, by rw [← Hxs.out]; exact hA.ints, hx1.size, hx1.trans hx⟩

theorem curve_curve (f : List (List PCell)) (n : Nat) (a : Option Addr) (b off cap : Nat) (w : World) (hl : f.length ≤ 6) (ok : ∀ cs ∈ f, cs.length ≤ 8 ∧ ∀ c ∈ cs, CellOk c) (hn : n ≤ 1000) (H : FieldAt w a b off f) :
    Calls Try.prog 30 #[.slice a f.length cap, .int .i64 (n : Int)] w fun r w' => ∃ g, r = .returned (.slice (some ⟨g, 0, none⟩) (n + 1) (n + 1)) ∧ IntsAt w' (some ⟨g, 0, none⟩) g 0 (curveL f (n + 1)) ∧ Ext w w' := by
  have hmk := make_ints (P := Try.prog) 26 3 Try.underlying26 infoInt (n + 1) (by omega) ((n : Int) + 1) (by omega)
  go_enter Try.func30, Try.ntmps30
  go_wp2_with fail
  have hA := Arr.zeros w (n + 1) 3
  go_loopw [15] (fun i wx => ∃ (k : Nat) (xs : List Int), k ≤ f.length ∧ i = .int .i64 k ∧ Arr wx w.heap.size 3 xs ∧ xs.length = n + 1 ∧ (∀ t : Nat, t < n + 1 → xs.getD t 0 = fieldCur (f.take k) t) ∧ Ext w wx) (fun i _ => f.length - (intOf i).toNat)
  case atStart => exact ⟨0, _, Nat.zero_le _, rfl, hA, by simp, fun t ht => by simp [fieldCur, List.getD_eq_getElem?_getD, ht], (Ext.refl _).alloc _⟩
  case round =>
    obtain ⟨k, xs, hk, rfl, hA, hlen, hfill, hx⟩ := hrel
    have hidx := FieldAt.idx Try.underlying29 szChain H cap k
    have Hfill := Lib.hid hfill
    clear hfill
    have hgl := hA.lt
    by_cases hlt : k < f.length
    · obtain ⟨ta, tb, toff, tcap, h1, h2⟩ := (H.mono hx).cell k hlt
      have hok := ok (f.getD k []) (by simp [List.getD_eq_getElem?_getD, hlt])
      have hsn := Lib.hid (fun v => fieldCur_snoc f v k hlt)
      have hfb : Hid (∀ t : Nat, 0 ≤ fieldCur (f.take k) t ∧ fieldCur (f.take k) t ≤ 1200) := fun t => by
        have := fieldCur_bound (f.take k) t
        rw [List.length_take] at this
        omega
      generalize f.getD k [] = cs at *
      go_wp2_with fail
      refine (currents_curve cs n ta tb toff tcap _ hok.1 hok.2 hn h1).mono ?_
      rintro e w2 ⟨g2, rfl, hi2, hg2, hx2⟩
      obtain ⟨wo, rfl⟩ : ∃ wo : World, wo = wr := ⟨_, rfl⟩
      have hA2 := hA.ext hx2
      go_wp2_with fail
      go_loopw [23] (fun i wx => ∃ (t : Nat) (ys : List Int), t ≤ n + 1 ∧ i = .int .i64 t ∧ Arr wx w.heap.size 3 ys ∧ ys.length = n + 1 ∧ (∀ s : Nat, s < t → ys.getD s 0 = fieldCur (f.take (k + 1)) s) ∧ (∀ s : Nat, t ≤ s → s < n + 1 → ys.getD s 0 = fieldCur (f.take k) s) ∧ IntsAt wx (some ⟨g2, 0, none⟩) g2 0 (currentsL cs (n + 1)) ∧ Ext w wx) (fun i _ => n + 1 - (intOf i).toNat)
      case atStart => exact ⟨0, xs, by omega, rfl, hA2, hlen, fun s hs => by omega, fun s _ hs => Hfill.out s hs, hi2, hx.trans hx2⟩
      case round =>
        obtain ⟨t, ys, ht, rfl, hA3, hlen3, hlo, hhi, hi3, hx3⟩ := hrel
        have Hlo := Lib.hid hlo
        have Hhi := Lib.hid hhi
        clear hlo hhi
        by_cases htl : t < n + 1
        · have htb : (0 : Int) ≤ (t : Int) ∧ (t : Int) < (n : Int) + 1 := by omega
          have g1 := hA3.cell t (by omega)
          rw [Hhi.out t (Nat.le_refl _) htl] at g1
          have g3 := hA3.frozen t
          have g4 := hi3.cell t (by simp [currentsL]; omega)
          rw [Nat.zero_add] at g4
          have hcv : (currentsL cs (n + 1)).getD t 0 = curAt cs t := by
            simp [currentsL, List.getD_eq_getElem?_getD, List.getElem?_map, List.getElem?_range htl]
          rw [hcv] at g4
          clear hcv
          have b1 := hfb.out t
          have b2 := curAt_bound cs t
          have hs := Lib.hid (hsn.out t)
          go_wp2
          refine ⟨⟨t + 1, ys.set t (fieldCur (f.take k) t + curAt cs t), by omega, by go_num, hA3.set t _, by simpa using hlen3, fun s hs2 => ?_, fun s h1 h2 => ?_, ?_, hx3.setCell (Nat.le_refl _) _⟩, by simp [intOf]; omega⟩
          · by_cases e : s = t
            · subst e; rw [getD_set_same _ _ _ _ (by omega)]; exact hs.out.symm
            · rw [getD_set_ne _ _ _ _ _ (Ne.symm e)]; exact Hlo.out s (by omega)
          · rw [getD_set_ne _ _ _ _ _ (by omega)]; exact Hhi.out s (by omega) h2
          · exact hi3.setCell (by simp; omega) _
        · have hvf : ¬ ((t : Int) < (n : Int) + 1) := by omega
          go_wp2
          exact ⟨⟨k + 1, ys, by omega, by go_num, hA3, hlen3, fun s hs => Hlo.out s (by omega), hx3⟩, by simp [intOf]; omega⟩
    · have hkk : k = f.length := by omega
      have hxs : xs = curveL f (n + 1) := by
        refine ext_getD _ _ (by simp [curveL, hlen]) fun t ht => ?_
        rw [Hfill.out t (by omega), hkk, List.take_of_length_le (Nat.le_refl _)]
        simp [curveL, List.getD_eq_getElem?_getD, List.getElem?_map, List.getElem?_range (show t < n + 1 by omega)]
      have Hxs := Lib.hid hxs
      clear hxs
      go_wp2
      go_ret
      exact ⟨_, rfl, by rw [← Hxs.out]; exact hA.ints, hx⟩
end Go.Proofs.Ytencdgmcpnbfcaa
