/- combinerref04: currents and voltages, as far as a guard leans on them; lists that are equal. -/
import Derived.Test.YtencdgmcpnbfcaaRefB
import Derived.Deep.DeepCutAuto
namespace Go.Proofs.Ytencdgmcpnbfcaa
open Go.RowKit
set_option maxHeartbeats 2000000
set_option maxRecDepth 100000
theorem floor_q (n d : Int) (w : World) (hd : 0 < d) (h1 : -1000000000000 ≤ n) (h2 : n ≤ 1000000000000) :
    Calls Try.prog 70 #[.int .i64 n, .int .i64 d] w fun r w' => r = .returned (.int .i64 (n / d)) ∧ w = w' := by
  have hq := Lib.hid (tdiv_floor n d hd)
  have hb := Lib.hid (tdiv_bound n d hd _ h1 h2)
  have hd0 : (d == 0) = false := by simp; omega
  go_enter Try.func70, Try.ntmps70
  go_wp2
  all_goals
    have hb' := hb.out
    have e1 := wrap_id' (n.tdiv d * d) (by omega) (by omega)
    have e2 := wrap_id' (n.tdiv d - 1) (by omega) (by omega)
    simp only [e1] at *
    go_ret
    refine ⟨ret_int ?_, rfl⟩
    rw [← hq.out]
    first
      | (rw [if_pos (by assumption)]; exact e2)
      | (rw [if_neg (by omega)])

theorem last_r04 (ps : List (Int × Int)) (a : Option Addr) (b off cap : Nat) (w : World) (h1 : 1 ≤ ps.length) (h2 : ps.length ≤ 1000000) (H : PtsAt w a b off ps) :
    Calls Try.prog 60 #[.slice a ps.length cap] w fun r w' => r = .returned (.int .i64 (lastT ps)) ∧ w = w' := by
  unfold lastT
  obtain ⟨j, hj⟩ : ∃ j, ps.length = j + 1 := ⟨ps.length - 1, by omega⟩
  have hidx := PtsAt.idx Try.underlying57 szPtR H cap j w (by omega)
  have hc := H.cellX j (by omega)
  have hl : (ps.length : Int) - 1 = (j : Int) := by omega
  have e : ps.length - 1 = j := by omega
  rw [e]
  clear hj e
  go_enter Try.func60, Try.ntmps60
  go_wp2
  go_ret
  exact ⟨rfl, rfl⟩




theorem tabCur_r04 (ps : List (Int × Int)) (volt : Int) (a : Option Addr) (b off cap : Nat) (w : World) (ok : TabOk ps) (hv0 : 0 ≤ volt) (hv1 : volt ≤ 1000000) (H : PtsAt w a b off ps) :
    Calls Try.prog 71 #[.slice a ps.length cap, .int .i64 volt] w fun r w' => SomeInt (fun x => 0 ≤ x ∧ x ≤ 200) r ∧ Ext w w' := by
  have h8 := ok.eight
  have h2 := ok.two
  go_enter Try.func71, Try.ntmps71
  go_wp2
  go_loopw [5] (fun i wr => ∃ j : Nat, j + 1 ≤ ps.length ∧ i = .int .i64 (↑j + 1) ∧ Ext w wr) (fun i _ => ps.length - (intOf i).toNat)
  case atStart => exact ⟨0, by omega, rfl, Ext.refl _⟩
  case round =>
    obtain ⟨j, hj, rfl, hx⟩ := hrel
    have Hr := H.mono hx
    by_cases hlt : j + 1 < ps.length
    · have i1 := fun W => PtsAt.idx Try.underlying57 szPtR H cap j W (by omega)
      have i2 := fun W => PtsAt.idx Try.underlying57 szPtR H cap (j + 1) W hlt
      simp only [Int.natCast_add, Int.cast_ofNat_Int] at i2
      have c1 := Hr.cellX j (by omega)
      have c2 := Hr.cellY j (by omega)
      have c3 := Hr.cellX (j + 1) hlt
      have c4 := Hr.cellY (j + 1) hlt
      have hbw := Hr.lt (by rintro rfl; simp at hlt)
      have b1 := ok.x0 j (by omega)
      have b2 := ok.y0 j (by omega)
      have b3 := ok.y0 (j + 1) hlt
      have b4 := ok.x1 (j + 1) hlt
      have b5 := ok.y1 j (by omega)
      have b6 := ok.y1 (j + 1) hlt
      have b7 := ok.inc j hlt
      have b8 := ok.dec j hlt
      clear Hr
      generalize ps.getD j (0, 0) = p at *
      generalize ps.getD (j + 1) (0, 0) = q at *
      obtain ⟨ax, ay⟩ := p
      obtain ⟨bx, bY⟩ := q
      simp only [] at c1 c2 c3 c4 b1 b2 b3 b4 b5 b6 b7 b8
      go_upto_region 4 with fail
      go_cut [6, 7] (fun s6 s7 wx => ∃ g6 g7 : Nat, s6 = .pointer (some ⟨g6, 0, none⟩) ∧ s7 = .pointer (some ⟨g7, 0, none⟩) ∧ Ext wr wx ∧ g6 < wx.heap.size ∧ g7 < wx.heap.size ∧ wx.cell? ⟨g6, 0, none⟩ = some (.int .i64 ax) ∧ wx.cell? ⟨g6, 1, none⟩ = some (.int .i64 ay) ∧ wx.cell? ⟨g7, 0, none⟩ = some (.int .i64 bx) ∧ wx.cell? ⟨g7, 1, none⟩ = some (.int .i64 bY))
      case first =>
        go_region
        all_goals (go_wp2_with fail; go_meet; exact ⟨_, _, rfl, rfl, (((Ext.refl _).alloc _).alloc _).drew, by simp <;> omega, by simp <;> omega, by go_simp, by go_simp, by go_simp, by go_simp⟩)
      case rest =>
        obtain ⟨g6, g7, rfl, rfl, hx7, hl6, hl7, d1, d2, d3, d4⟩ := hcut
        have cases : decide (ax ≤ volt) = false ∨ (decide (ax ≤ volt) = true ∧ decide (volt < bx) = false) ∨ (decide (ax ≤ volt) = true ∧ decide (volt < bx) = true) := by
          cases decide (ax ≤ volt) <;> cases decide (volt < bx) <;> simp
        rcases cases with z1 | ⟨z1, z2⟩ | ⟨z1, z2⟩
        · go_wp2
          exact ⟨⟨j + 1, by omega, by simp, hx.trans hx7⟩, by simp [intOf]; omega⟩
        · go_wp2
          exact ⟨⟨j + 1, by omega, by simp, hx.trans hx7⟩, by simp [intOf]; omega⟩
        · have y1 : ax ≤ volt := by simpa using z1
          have y2 : volt < bx := by simpa using z2
          have e1 := wrap_id (bY - ay) (by omega) (by omega)
          have e2 := wrap_id (volt - ax) (by omega) (by omega)
          have e3 := wrap_id (bx - ax) (by omega) (by omega)
          have hm := mul_bound (bY - ay) (volt - ax) 200 1000000 (by omega) (by omega) (by omega) (by omega) (by omega)
          have e4 := wrap_id ((bY - ay) * (volt - ax)) (by omega) (by omega)
          have hs := slope ay bY volt ax bx y1 y2 b8
          have e5 := wrap_id (ay + (bY - ay) * (volt - ax) / (bx - ax)) (by omega) (by omega)
          have hm1 := hm.1
          have hm2 := hm.2
          have Hs := Lib.hid hs
          clear hm hs y1 y2
          go_wp2
          have f1 := fun x : XW wc => XW.cell d1 hl6 x
          have f2 := fun x : XW wc => XW.cell d2 hl6 x
          have f3 := fun x : XW wc => XW.cell d3 hl7 x
          have f4 := fun x : XW wc => XW.cell d4 hl7 x
          refine wp_region_all (XC wc) (by kernel_rfl) (by kernel_rfl) ⟨⟨_, (Ext.refl _).drew⟩, rfl⟩ ?_
          repeat (go_big_quiet_step ((go_at_call 70; exact XW.same _ (floor_q _ _ _ (by omega) (by omega) (by omega)))))
          refine wpQuiet_nil ?_
          rintro w2 ⟨x, rfl⟩
          go_wp2
          go_ret
          exact ⟨someInt ⟨by have := Hs.out; omega, by have := Hs.out; omega⟩, (hx.trans hx7).trans x.2⟩
    · have hl : (ps.length : Int) = (j : Int) + 1 := by omega
      have Hl := Lib.hid hl
      clear hl
      go_wp2
      go_ret
      exact ⟨someInt (by omega), hx⟩

def NonNeg (x : Int) : Prop := 0 ≤ x
theorem cur_r04 (c : PCell) (volt : Int) (a : Option Addr) (b off cap : Nat) (w : World) (ok : CellOk c) (hv0 : 0 ≤ volt) (hv1 : volt ≤ 1000000) (H : PtsAt w a b off c.tab) :
    Calls Try.prog 61 #[.agg #[.slice a c.tab.length cap, .int .i64 c.light, .int .i64 c.drop], .int .i64 volt] w fun r w' => SomeInt NonNeg r ∧ Ext w w' := by
  have h0 := ok.l0
  have h1 := ok.l1
  have ok' := ok.tab
  have key : ∀ x : Int, 0 ≤ x → x ≤ 200 → 0 ≤ x * c.light ∧ x * c.light ≤ 200000 := fun x hx hx2 => ⟨Int.mul_nonneg hx h0, Int.mul_le_mul hx2 h1 h0 (by omega)⟩
  have Key := Lib.hid key
  clear key
  go_enter Try.func61, Try.ntmps61
  go_wp2
  go_region_held3 (fun w' => w'.cell? ⟨w.heap.size, 0, none⟩ = some (.slice a c.tab.length cap) ∧ w'.cell? ⟨w.heap.size, 1, none⟩ = some (.int .i64 c.light)) (first | go_keep | exact ⟨keep_ext hx (by simp) (by simp), keep_ext hx (by simp) (by simp)⟩) (first | (go_at_call 71; refine (tabCur_r04 c.tab volt a b off cap _ ok' hv0 hv1 (H.mono (((Ext.refl _).alloc _).drew))).mono ?_; rintro e w' ⟨⟨x, rfl, hx0, hx1⟩, hx⟩; have k0 := (Key.out x hx0 hx1).1; have k1 := (Key.out x hx0 hx1).2; have e1 := wrap_id (x * c.light) (by omega) (by omega)) | (go_at_call 70; refine (floor_q _ _ _ (by omega) (by omega) (by omega)).mono ?_; rintro e w' ⟨rfl, rfl⟩))
  have hnn := Int.ediv_nonneg (Key.out x hx0 hx1).1 (show (0 : Int) ≤ 1000 by omega)
  have Hnn := Lib.hid hnn
  clear hnn
  go_wp2
  go_ret
  exact ⟨someInt Hnn.out, (((Ext.refl w).alloc _).drew).trans hx⟩

theorem volt0_r04 (c : PCell) (a : Option Addr) (b off cap : Nat) (w : World) (ok : CellOk c) (H : PtsAt w a b off c.tab) :
    Calls Try.prog 44 #[.agg #[.slice a c.tab.length cap, .int .i64 c.light, .int .i64 c.drop], .int .i64 0] w fun r w' => r = .returned (.tuple #[.int .i64 (lastL c), .bool true]) ∧ Ext w w' := by
  have hlb := lastL_bound ok
  have h1 := ok.tab.two
  have h2 := ok.tab.eight
  have hdr := ok.d0
  have hdr1 := ok.d1
  obtain ⟨L, hL⟩ := Int.eq_ofNat_of_zero_le hlb.1
  have hL2 : L ≤ 100 := by omega
  have HL := Lib.hid hL
  have hL' : lastT c.tab = (L : Int) := hL
  clear hL hlb
  go_enter Try.func44, Try.ntmps44
  go_wp2_with fail
  go_loopw [6, 7, 8] (fun s6 s7 s8 wr => ∃ v : Nat, v ≤ L + 1 ∧ s8 = .int .i64 v ∧ (v = 0 ∨ (s6 = .int .i64 ((v : Int) - 1) ∧ s7 = .bool true)) ∧ Ext (w.alloc (.cells #[.slice a c.tab.length cap, .int .i64 c.light, .int .i64 c.drop] 59)) wr) (fun _ _ s8 _ => L + 1 - (intOf s8).toNat)
  case atStart => exact ⟨0, by omega, rfl, .inl rfl, Ext.refl _⟩
  case round =>
    obtain ⟨v, hv, rfl, hs, hx⟩ := hrel
    have f1 : wr.cell? ⟨w.heap.size, 0, none⟩ = _ := XW.cell_new (o := 0) rfl ⟨wr, hx⟩
    have f2 : wr.cell? ⟨w.heap.size, 1, none⟩ = _ := XW.cell_new (o := 1) rfl ⟨wr, hx⟩
    have f3 : wr.cell? ⟨w.heap.size, 2, none⟩ = _ := XW.cell_new (o := 2) rfl ⟨wr, hx⟩
    have hxw : Ext w wr := ((Ext.refl w).alloc _).trans hx
    have Hs := Lib.hid hs
    clear hs
    by_cases hvl : v ≤ L
    · have hvb : (v : Int) ≤ (L : Int) := by omega
      go_wp2_with (go_at_call 60; refine (last_r04 c.tab a b off cap _ (by omega) (by omega) (H.mono hxw)).mono ?_; rintro e w1 ⟨rfl, rfl⟩)
      refine (cur_r04 c v a b off cap _ ok (by omega) (by omega) (H.mono hxw)).mono ?_
      rintro e w2 ⟨⟨x, rfl, hx0⟩, hx2⟩
      have hx0' : (0 : Int) ≤ x := hx0
      clear hx0
      go_wp2
      exact ⟨⟨v + 1, by omega, by go_num, .inr ⟨by simp, rfl⟩, hx.trans hx2⟩, by simp [intOf]; omega⟩
    · have hvb : ¬ (v : Int) ≤ (L : Int) := by omega
      have hvv : Hid (u6 = .int .i64 (lastL c) ∧ u7 = .bool true) := by
        rcases Hs.out with h | ⟨h3, h4⟩
        · omega
        · exact ⟨by rw [h3, HL.out]; congr 1; omega, h4⟩
      go_wp2_with (go_at_call 60; refine (last_r04 c.tab a b off cap _ (by omega) (by omega) (H.mono hxw)).mono ?_; rintro e w1 ⟨rfl, rfl⟩)
      go_ret2
      exact ⟨by rw [← hvv.out.1, ← hvv.out.2]; rfl, hxw⟩

theorem chainVolt0_r04 (cs : List PCell) (a : Option Addr) (b off cap : Nat) (w : World) (hl : cs.length ≤ 8) (ok : ∀ c ∈ cs, CellOk c) (H : CellsAt w a b off cs) :
    Calls Try.prog 19 #[.slice a cs.length cap, .int .i64 0] w fun r w' => r = .returned (.int .i64 (chainVoltL cs 0)) ∧ Ext w w' := by
  go_enter Try.func19, Try.ntmps19
  go_wp2
  go_loopw [5, 6] (fun s i wr => ∃ k : Nat, k ≤ cs.length ∧ i = .int .i64 k ∧ s = .int .i64 (chainVoltL (cs.take k) 0) ∧ Ext w wr) (fun _ i _ => cs.length - (intOf i).toNat)
  case atStart => exact ⟨0, Nat.zero_le _, rfl, rfl, Ext.refl _⟩
  case round =>
    obtain ⟨k, hk, rfl, rfl, hx⟩ := hrel
    by_cases hlt : k < cs.length
    · have hidx := fun W => CellsAt.idx Try.underlying46 szCellR H cap k W hlt
      obtain ⟨ta, tb, toff, tcap, h1, h2, h3, h4⟩ := (H.mono hx).cell k hlt
      have hok := ok (cs.getD k default) (by simp [List.getD_eq_getElem?_getD, hlt])
      have hb := chainVolt_bound (cs.take k) (fun c hc => ok c (List.mem_of_mem_take hc)) 0
      have hv := lastL_bound hok
      have hs := chainVolt_snoc cs 0 k hlt
      rw [voltL_zero hok] at hs
      have hs' := Lib.hid hs
      rw [List.length_take, Nat.min_eq_left hk] at hb
      clear hs
      generalize cs.getD k default = c at *
      generalize chainVoltL (cs.take k) 0 = S at *
      go_wp2_with fail
      refine (volt0_r04 c ta tb toff tcap _ hok h1).mono ?_
      rintro e w2 ⟨rfl, hx2⟩
      go_wp2
      exact ⟨⟨k + 1, by omega, by go_num, by rw [hs'.out], hx.trans hx2⟩, by simp [intOf]; omega⟩
    · have hkk : k = cs.length := by omega
      go_wp2
      go_ret
      exact ⟨ret_int (by rw [List.take_of_length_le (by omega)]), hx⟩

theorem same_q (xs ys : List Int) (a1 a2 : Option Addr) (b1 o1 c1 b2 o2 c2 : Nat) (w : World) (h1 : xs.length ≤ 1000000) (h2 : ys.length ≤ 1000000) (H1 : IntsAt w a1 b1 o1 xs) (H2 : IntsAt w a2 b2 o2 ys) :
    Calls Try.prog 20 #[.slice a1 xs.length c1, .slice a2 ys.length c2] w fun r w' => r = .returned (.bool (decide (xs = ys))) ∧ Ext w w' := by
  by_cases hne : xs.length = ys.length
  · have hb : ((xs.length : Int) != (ys.length : Int)) = false := by simp [hne]
    have Hne := Lib.hid hne
    clear hne
    go_enter Try.func20, Try.ntmps20
    go_wp2
    go_loopw [5] (fun i wr => ∃ k : Nat, k ≤ xs.length ∧ i = .int .i64 k ∧ (∀ j, j < k → xs.getD j 0 = ys.getD j 0) ∧ Ext w wr) (fun i _ => xs.length - (intOf i).toNat)
    case atStart => exact ⟨0, Nat.zero_le _, rfl, fun j hj => by omega, Ext.refl _⟩
    case round =>
      obtain ⟨k, hk, rfl, hf, hx⟩ := hrel
      have Hf := Lib.hid hf
      clear hf
      by_cases hlt : k < xs.length
      · have hlt2 : k < ys.length := by have := Hne.out; omega
        have i1 := fun W => IntsAt.idx Try.underlying26 szInt H1 c1 k W hlt
        have i2 := fun W => IntsAt.idx Try.underlying26 szInt H2 c2 k W hlt2
        have d1 := (H1.mono hx).cell k hlt
        have d2 := (H2.mono hx).cell k hlt2
        have l1 := (H1.mono hx).lt (by rintro rfl; simp at hlt)
        have l2 := (H2.mono hx).lt (by rintro rfl; simp at hlt2)
        generalize hxk : xs.getD k 0 = x at *
        generalize hyk : ys.getD k 0 = y at *
        have Hx := Lib.hid hxk
        have Hy := Lib.hid hyk
        clear hxk hyk
        have f1 := XW.cell d1 l1
        have f2 := XW.cell d2 l2
        have cs : (x != y) = true ∨ (x != y) = false := by cases (x != y) <;> simp
        rcases cs with e | e
        all_goals
          go_wp2
          refine wp_region_all (XC wr) (by kernel_rfl) (by kernel_rfl) ⟨⟨_, (Ext.refl _).drew⟩, rfl⟩ ?_
          repeat (go_big_quiet_step (fail))
          refine wpQuiet_nil ?_
          rintro w4 ⟨x4, rfl⟩
          go_wp2
          first
            | (go_ret; exact ⟨ret_bool (by symm; rw [decide_eq_false_iff_not]; rintro rfl; rw [← Hx.out, ← Hy.out] at e; simp at e), hx.trans x4.2⟩)
            | exact ⟨⟨k + 1, by omega, by go_num, lt_snoc Hf.out (by rw [Hx.out, Hy.out]; simpa using e), hx.trans x4.2⟩, by simp [intOf]; omega⟩
      · have he : xs = ys := ext_getD xs ys Hne.out (fun i hi => Hf.out i (by omega))
        have He := Lib.hid he
        clear he
        go_wp2
        go_ret
        exact ⟨ret_bool (by rw [decide_eq_true He.out]), hx⟩
  · have hb : ((xs.length : Int) != (ys.length : Int)) = true := by simp; omega
    have Hne := Lib.hid hne
    clear hne
    go_enter Try.func20, Try.ntmps20
    go_wp2
    go_ret
    exact ⟨ret_bool (by symm; rw [decide_eq_false_iff_not]; rintro rfl; exact Hne.out rfl), Ext.refl _⟩
end Go.Proofs.Ytencdgmcpnbfcaa
