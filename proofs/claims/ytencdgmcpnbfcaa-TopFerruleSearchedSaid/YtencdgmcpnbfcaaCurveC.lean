/- curve: currents of tables and cells. -/
import Derived.Test.YtencdgmcpnbfcaaCurveB
import Derived.Test.YtencdgmcpnbfcaaArith
import Derived.Deep.DeepCutAuto
import Derived.ChangeKeysEq
namespace Go.Proofs.Ytencdgmcpnbfcaa
open Go.RowKit
set_option maxHeartbeats 1000000
set_option maxRecDepth 100000

theorem floor_curve (n d : Int) (w : World) (hd : 0 < d) (h1 : -1000000000000 ≤ n) (h2 : n ≤ 1000000000000) :
    Calls Try.prog 77 #[.int .i64 n, .int .i64 d] w fun r w' => r = .returned (.int .i64 (n / d)) ∧ w = w' := by
  have hq := Lib.hid (tdiv_floor n d hd)
  have hb := Lib.hid (tdiv_bound n d hd _ h1 h2)
  have hd0 : (d == 0) = false := by simp; omega
  go_enter Try.func77, Try.ntmps77
  go_wp2
  all_goals
    have hb' := hb.out
    have e1 := wrap_id' (n.tdiv d * d) (by omega) (by omega)
    have e2 := wrap_id' (n.tdiv d - 1) (by omega) (by omega)
    simp only [e1] at *
    go_ret
    refine ⟨ret_int ?_, rfl⟩
    rw [← hq.out]
    first
      | (rw [if_pos (by assumption)]; exact e2)
      | (rw [if_neg (by omega)])

theorem last_curve (ps : List (Int × Int)) (a : Option Addr) (b off cap : Nat) (w : World) (h1 : 1 ≤ ps.length) (h2 : ps.length ≤ 1000000) (H : PtsAt w a b off ps) :
    Calls Try.prog 74 #[.slice a ps.length cap] w fun r w' => r = .returned (.int .i64 (lastT ps)) ∧ w = w' := by
  unfold lastT
  obtain ⟨j, hj⟩ : ∃ j, ps.length = j + 1 := ⟨ps.length - 1, by omega⟩
  have hidx := PtsAt.idx Try.underlying51 szPt H cap j w (by omega)
  have hc := H.cellX j (by omega)
  have hl : (ps.length : Int) - 1 = (j : Int) := by omega
  have e : ps.length - 1 = j := by omega
  rw [e]
  clear hj e
  go_enter Try.func74, Try.ntmps74
  go_wp2
  go_ret
  exact ⟨rfl, rfl⟩



theorem run_eql_2 (x y x' y' : Int) (W : World) : (binOp .eql 118 (.agg #[.int .i64 x, .int .i64 y]) (.agg #[.int .i64 x', .int .i64 y'])).run Try.prog W = .ok (.bool (decide (x = x') && decide (y = y'))) W := by
  obtain ⟨i, hi⟩ : ∃ i, Try.prog.info? 3 = some i := Option.isSome_iff_exists.1 (by kernel_rfl)
  have hc : Try.prog.cellsOf 3 = 1 := by kernel_rfl
  rw [run_eql_struct, run_equalIn_array W 9999 _ _ Try.underlying118 hi]
  simp [Op.eqItems, List.range_succ, hc, go_sem]
  by_cases h1 : x = x' <;> by_cases h2 : y = y' <;> simp [h1, h2]
attribute [local go_sem ↓ high] run_eql_2

theorem tabCur_curve (ps : List (Int × Int)) (volt : Int) (a : Option Addr) (b off cap : Nat) (w : World) (ok : TabOk ps) (hv0 : 0 ≤ volt) (hv1 : volt ≤ 1000000) (H : PtsAt w a b off ps) :
    Calls Try.prog 76 #[.slice a ps.length cap, .int .i64 volt] w fun r w' => r = .returned (.int .i64 (tabCurL ps volt)) ∧ Ext w w' := by
  have h8 := ok.eight
  have h2 := ok.two
  go_enter Try.func76, Try.ntmps76
  go_wp2
  go_loopw [5] (fun i wr => ∃ j : Nat, j + 1 ≤ ps.length ∧ i = .int .i64 (↑j + 1) ∧ tabCurL ps volt = curGo volt (ps.getD j (0, 0)) (ps.drop (j + 1)) ∧ Ext w wr) (fun i _ => ps.length - (intOf i).toNat)
  case atStart => exact ⟨0, by omega, rfl, rfl, Ext.refl _⟩
  case round =>
    obtain ⟨j, hj, rfl, hf, hx⟩ := hrel
    have Hr := H.mono hx
    by_cases hlt : j + 1 < ps.length
    · have i1 := fun W => PtsAt.idx Try.underlying51 szPt H cap j W (by omega)
      have i2 := fun W => PtsAt.idx Try.underlying51 szPt H cap (j + 1) W hlt
      simp only [Int.natCast_add, Int.cast_ofNat_Int] at i2
      have c1 := Hr.cellX j (by omega)
      have c2 := Hr.cellY j (by omega)
      have c3 := Hr.cellX (j + 1) hlt
      have c4 := Hr.cellY (j + 1) hlt
      have hbw := Hr.lt (by rintro rfl; simp at hlt)
      have b1 := ok.x0 j (by omega)
      have b2 := ok.y0 j (by omega)
      have b3 := ok.y0 (j + 1) hlt
      have b4 := ok.x1 (j + 1) hlt
      have b5 := ok.y1 j (by omega)
      have b6 := ok.y1 (j + 1) hlt
      have b7 := ok.inc j hlt
      have b8 := ok.dec j hlt
      rw [List.drop_eq_getElem_cons hlt, curGo, show ps[j + 1] = ps.getD (j + 1) (0, 0) from by simp [List.getD_eq_getElem?_getD, hlt]] at hf
      have Hf := Lib.hid hf
      clear hf Hr
      generalize hp : ps.getD j (0, 0) = p at *
      generalize hq : ps.getD (j + 1) (0, 0) = q at *
      have Hq := Lib.hid hq
      clear hp hq
      obtain ⟨ax, ay⟩ := p
      obtain ⟨bx, bY⟩ := q
      simp only [] at c1 c2 c3 c4 b1 b2 b3 b4 b5 b6 b7 b8
      go_upto_region 4 with fail
      go_cut [6, 7] (fun s6 s7 wx => ∃ g6 g7 : Nat, s6 = .pointer (some ⟨g6, 0, none⟩) ∧ s7 = .pointer (some ⟨g7, 0, none⟩) ∧ Ext wr wx ∧ g6 < wx.heap.size ∧ g7 < wx.heap.size ∧ wx.cell? ⟨g6, 0, none⟩ = some (.int .i64 ax) ∧ wx.cell? ⟨g6, 1, none⟩ = some (.int .i64 ay) ∧ wx.cell? ⟨g7, 0, none⟩ = some (.int .i64 bx) ∧ wx.cell? ⟨g7, 1, none⟩ = some (.int .i64 bY))
      case first =>
        go_region
        all_goals (go_wp2_with fail; go_meet; exact ⟨_, _, rfl, rfl, (((Ext.refl _).alloc _).alloc _).drew, by simp <;> omega, by simp <;> omega, by go_simp, by go_simp, by go_simp, by go_simp⟩)
      case rest =>
        obtain ⟨g6, g7, rfl, rfl, hx7, hl6, hl7, d1, d2, d3, d4⟩ := hcut
        have e1 := wrap_id (bY - ay) (by omega) (by omega)
        have e2 := wrap_id (volt - ax) (by omega) (by omega)
        have e3 := wrap_id (bx - ax) (by omega) (by omega)
        have hm := mul_bound (bY - ay) (volt - ax) 200 1000000 (by omega) (by omega) (by omega) (by omega) (by omega)
        have e4 := wrap_id ((bY - ay) * (volt - ax)) (by omega) (by omega)
        have hq : -200000000 ≤ (bY - ay) * (volt - ax) / (bx - ax) ∧ (bY - ay) * (volt - ax) / (bx - ax) ≤ 200000000 := by
          generalize (bY - ay) * (volt - ax) = n at *
          have hd : 0 < bx - ax := by omega
          constructor
          · rw [Int.le_ediv_iff_mul_le hd]
            have := Int.mul_le_mul_of_nonneg_left (show (1 : Int) ≤ bx - ax by omega) (show (0 : Int) ≤ 200000000 by omega)
            omega
          · have := Int.ediv_le_ediv hd hm.2
            have h9 := Int.ediv_le_self (a := 200 * 1000000) (bx - ax) (by omega)
            omega
        have e5 := wrap_id (ay + (bY - ay) * (volt - ax) / (bx - ax)) (by omega) (by omega)
        have hm1 := hm.1
        have hm2 := hm.2
        clear hm hq
        by_cases z : ay = 0 ∧ bY = 0
        · have z1 : decide (ay = 0) = true := by simp [z.1]
          have z2 : decide (bY = 0) = true := by simp [z.2]
          have Z := Lib.hid z
          clear z
          go_wp2
          go_ret
          exact ⟨ret_int (by rw [Hf.out]; exact (if_pos Z.out).symm), hx.trans (hx7.alloc _)⟩
        · have z1 : (decide (ay = 0) && decide (bY = 0)) = false := by simpa using z
          have Z := Lib.hid z
          clear z
          by_cases hv : volt < bx
          · go_wp2
            have f1 := fun x : XW (wc.alloc (.cells #[.int .i64 ay, .int .i64 bY] 118)) => XW.cell_alloc d1 hl6 x
            have f2 := fun x : XW (wc.alloc (.cells #[.int .i64 ay, .int .i64 bY] 118)) => XW.cell_alloc d2 hl6 x
            have f3 := fun x : XW (wc.alloc (.cells #[.int .i64 ay, .int .i64 bY] 118)) => XW.cell_alloc d3 hl7 x
            have f4 := fun x : XW (wc.alloc (.cells #[.int .i64 ay, .int .i64 bY] 118)) => XW.cell_alloc d4 hl7 x
            refine wp_region_all (XC (wc.alloc (.cells #[.int .i64 ay, .int .i64 bY] 118))) (by kernel_rfl) (by kernel_rfl) ⟨⟨_, (Ext.refl _).drew⟩, rfl⟩ ?_
            repeat (go_big_quiet_step ((go_at_call 77; exact XW.same _ (floor_curve _ _ _ (by omega) (by omega) (by omega)))))
            refine wpQuiet_nil ?_
            rintro w2 ⟨x, rfl⟩
            go_wp2
            go_ret
            exact ⟨ret_int (by rw [Hf.out, if_neg Z.out, if_pos hv]), (hx.trans (hx7.alloc _)).trans x.2⟩
          · go_wp2
            exact ⟨⟨j + 1, by omega, by simp, by rw [Hf.out, if_neg Z.out, if_neg (by omega), Hq.out], hx.trans (hx7.alloc _)⟩, by simp [intOf]; omega⟩
    · have hl : (ps.length : Int) = (j : Int) + 1 := by omega
      have hd : ps.drop (j + 1) = [] := List.drop_of_length_le (by omega)
      rw [hd] at hf
      have Hf := Lib.hid hf
      clear hf hl hd
      go_wp2
      go_ret
      exact ⟨ret_int (by rw [Hf.out]; rfl), hx⟩


theorem cellCur_curve (c : PCell) (volt : Int) (a : Option Addr) (b off cap : Nat) (w : World) (ok : CellOk c) (hv0 : 0 ≤ volt) (hv1 : volt ≤ 1000000) (H : PtsAt w a b off c.tab) :
    Calls Try.prog 75 #[.agg #[.slice a c.tab.length cap, .int .i64 c.light, .int .i64 c.drop], .int .i64 volt] w fun r w' => r = .returned (.int .i64 (curL c volt)) ∧ Ext w w' := by
  have hb := tabCurL_bound ok.tab hv0
  have h0 := ok.l0
  have h1 := ok.l1
  have k1 : 0 ≤ tabCurL c.tab volt * c.light := Int.mul_nonneg hb.1 h0
  have k2 : tabCurL c.tab volt * c.light ≤ 200 * 1000 := Int.mul_le_mul hb.2 h1 h0 (by omega)
  have e1 := wrap_id (tabCurL c.tab volt * c.light) (by omega) (by omega)
  have ok' := ok.tab
  go_enter Try.func75, Try.ntmps75
  go_wp2
  have f1 := fun x : XW (w.alloc (.cells #[.slice a c.tab.length cap, .int .i64 c.light, .int .i64 c.drop] 53)) => XW.cell_new (o := 0) rfl x
  have f2 := fun x : XW (w.alloc (.cells #[.slice a c.tab.length cap, .int .i64 c.light, .int .i64 c.drop] 53)) => XW.cell_new (o := 1) rfl x
  refine wp_region_all (XC (w.alloc (.cells #[.slice a c.tab.length cap, .int .i64 c.light, .int .i64 c.drop] 53))) (by kernel_rfl) (by kernel_rfl) ⟨⟨_, (Ext.refl _).drew⟩, rfl⟩ ?_
  repeat (go_big_quiet_step ((go_at_call 76; exact XW.call _ (tabCur_curve c.tab volt a b off cap _ ok' hv0 hv1 (H.mono (((Ext.refl w).alloc _).trans (Subtype.property _)))))))
  refine wpQuiet_nil ?_
  rintro w2 ⟨x, rfl⟩
  go_wp2
  go_ret
  exact ⟨rfl, ((Ext.refl w).alloc _).trans x.2⟩

theorem volt_curve (c : PCell) (n : Int) (a : Option Addr) (b off cap : Nat) (w : World) (ok : CellOk c) (H : PtsAt w a b off c.tab) :
    Calls Try.prog 67 #[.agg #[.slice a c.tab.length cap, .int .i64 c.light, .int .i64 c.drop], .int .i64 n] w fun r w' => r = .returned (.tuple #[.int .i64 (voltL c n).1, .bool (voltL c n).2]) ∧ Ext w w' := by
  have hlb := lastL_bound ok
  have h1 := ok.tab.two
  have h2 := ok.tab.eight
  have hdr := ok.d0
  have hdr1 := ok.d1
  go_enter Try.func67, Try.ntmps67
  go_wp2_with (go_at_call 74; refine (last_curve c.tab a b off cap _ (by omega) (by omega) (H.mono ((Ext.refl w).alloc _))).mono ?_; rintro e w1 ⟨rfl, rfl⟩)
  go_loopw [6] (fun s6 wr => ∃ m : Int, -1 ≤ m ∧ m ≤ 100 ∧ s6 = .int .i64 m ∧ voltL c n = (if m < 0 then (-c.drop, false) else voltGo c n m.toNat) ∧ Ext (w.alloc (.cells #[.slice a c.tab.length cap, .int .i64 c.light, .int .i64 c.drop] 53)) wr) (fun i _ => (intOf i + 1).toNat)
  case atStart => exact ⟨lastL c, by omega, hlb.2, rfl, by rw [if_neg (by omega)]; rfl, Ext.refl _⟩
  case round =>
    obtain ⟨m, hm0, hm1, rfl, hf, hx⟩ := hrel
    have f1 := XW.cell_new (o := 0) rfl ⟨wr, hx⟩
    have f2 := XW.cell_new (o := 1) rfl ⟨wr, hx⟩
    have f3 := XW.cell_new (o := 2) rfl ⟨wr, hx⟩
    have hxw : Ext w wr := ((Ext.refl w).alloc _).trans hx
    by_cases hneg : m < 0
    · rw [if_pos hneg] at hf
      have Hf := Lib.hid hf
      clear hf
      go_wp2
      go_ret2
      exact ⟨by rw [Hf.out]; rfl, hxw⟩
    · rw [if_neg hneg, volt_step c n m (by omega)] at hf
      have Hf := Lib.hid hf
      clear hf
      go_wp2_with fail
      refine (cellCur_curve c m a b off cap _ ok (by omega) (by omega) (H.mono hxw)).mono ?_
      rintro e w2 ⟨rfl, hx2⟩
      by_cases hc : n ≤ curL c m
      · go_wp2
        go_ret2
        exact ⟨by rw [Hf.out, if_pos hc]; rfl, hxw.trans hx2⟩
      · go_wp2
        exact ⟨⟨m - 1, by omega, by omega, rfl, by rw [Hf.out, if_neg (by omega)], hx.trans hx2⟩, by simp [intOf]; omega⟩

theorem chainVolt_curve (cs : List PCell) (n : Int) (a : Option Addr) (b off cap : Nat) (w : World) (hl : cs.length ≤ 8) (ok : ∀ c ∈ cs, CellOk c) (H : CellsAt w a b off cs) :
    Calls Try.prog 56 #[.slice a cs.length cap, .int .i64 n] w fun r w' => r = .returned (.int .i64 (chainVoltL cs n)) ∧ Ext w w' := by
  go_enter Try.func56, Try.ntmps56
  go_wp2
  go_loopw [5, 12] (fun s i wr => ∃ k : Nat, k ≤ cs.length ∧ i = .int .i64 k ∧ s = .int .i64 (chainVoltL (cs.take k) n) ∧ Ext w wr) (fun _ i _ => cs.length - (intOf i).toNat)
  case atStart => exact ⟨0, Nat.zero_le _, rfl, rfl, Ext.refl _⟩
  case round =>
    obtain ⟨k, hk, rfl, rfl, hx⟩ := hrel
    have hidx := CellsAt.idx Try.underlying54 szCell H cap k
    by_cases hlt : k < cs.length
    · obtain ⟨ta, tb, toff, tcap, h1, h2, h3, h4⟩ := (H.mono hx).cell k hlt
      have hok := ok (cs.getD k default) (by simp [List.getD_eq_getElem?_getD, hlt])
      have hsn := take_map_snoc (fun c => (voltL c n).1) cs k default hlt
      have hb := chainVolt_bound (cs.take k) (fun c hc => ok c (List.mem_of_mem_take hc)) n
      have hv := voltL_bound hok n
      have hs : chainVoltL (cs.take (k + 1)) n = chainVoltL (cs.take k) n + (voltL (cs.getD k default) n).1 := by
        simp only [chainVoltL, hsn, sum_snoc]
      have hs' := Lib.hid hs
      rw [List.length_take, Nat.min_eq_left hk] at hb
      clear hs hsn
      generalize cs.getD k default = c at *
      generalize chainVoltL (cs.take k) n = S at *
      go_wp2_with fail
      refine (volt_curve c n ta tb toff tcap _ hok (h1.mono ((Ext.refl _).alloc _))).mono ?_
      rintro e w2 ⟨rfl, hx2⟩
      go_wp2
      exact ⟨⟨k + 1, by omega, by go_num, by rw [hs'.out], hx.trans (((Ext.refl wr).alloc _).trans hx2)⟩, by simp [intOf]; omega⟩
    · have hkk : k = cs.length := by omega
      go_wp2
      go_ret
      exact ⟨ret_int (by rw [List.take_of_length_le (by omega)]), hx⟩

theorem end1_curve (cs : List PCell) (a : Option Addr) (b off cap : Nat) (w : World) (hl : cs.length ≤ 8) (ok : ∀ c ∈ cs, CellOk c) (H : CellsAt w a b off cs) :
    Calls Try.prog 55 #[.slice a cs.length cap] w fun r w' => r = .returned (.int .i64 (chainVoltL cs 0)) ∧ Ext w w' := by
  go_enter Try.func55, Try.ntmps55
  go_wp2_with (go_at_call 56; refine (chainVolt_curve cs 0 a b off cap _ hl ok H).mono ?_; rintro e w2 ⟨rfl, hx2⟩)
  go_ret
  exact ⟨rfl, hx2⟩
end Go.Proofs.Ytencdgmcpnbfcaa
