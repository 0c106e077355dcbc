/- the top package: TopFerruleSearched. -/
import Derived.Test.YtencdgmcpnbfcaaGame
import Derived.Deep.DeepCutAuto
import Derived.Deep.CutRange
namespace Go.Proofs.Ytencdgmcpnbfcaa
open Go.RowKit
set_option maxHeartbeats 4000000
set_option maxRecDepth 100000

def QSays (q hb : Bool) (top : Int) : Prop := q = true → hb = true ∧ 0 < top
theorem top_no (f : List (List PCell)) (a : Option Addr) (b off cap : Nat) (m0 m1 : Int) (w : World) (hn : f.length ≤ 100000000000000) (hm : ∀ cs ∈ f, cs.length ≤ 100000000000000) (g0 : 0 ≤ m0 ∧ m0 ≤ 255) (g1 : 0 ≤ m1 ∧ m1 ≤ 255) (H : FieldAt w a b off f) :
    Calls Try.prog 3 #[.slice a f.length cap, .agg #[.int .u8 m0, .int .u8 m1]] w fun r w' => r = .returned (.bool true) ∧ Ext w w' := by
  go_enter Try.func3, Try.ntmps3
  go_wp2_with fail
  refine (small_top f a b off cap _ hn hm (H.mono ((Ext.refl _).alloc _))).mono ?_
  rintro e w1 ⟨⟨s, rfl, hs⟩, hx1⟩
  cases s
  · clear hs
    go_wp2_with fail
    refine (peak_top _).mono ?_
    rintro e w2 ⟨rfl, hx2⟩
    go_wp2
    go_ret
    exact ⟨rfl, (((Ext.refl _).alloc _).trans hx1).trans hx2⟩
  · obtain ⟨ok, h3, h4⟩ := hs rfl
    clear hs
    go_wp2_with fail
    refine (peak_top _).mono ?_
    rintro e w2 ⟨rfl, hx2⟩
    have hx02 := (((Ext.refl w).alloc (.cells #[.int .u8 m0, .int .u8 m1] 23)).trans hx1).trans hx2
    have H2 := H.mono hx02
    have B2 : Box2 w2 w.heap.size 23 (.int .u8 m0) (.int .u8 m1) := (Box2.new w _ _ _).ext (hx1.trans hx2)
    obtain ⟨l, P, n, j, g⟩ := game ⟨ok, h3, h4⟩
    have hpm := powers_top f n g.e
    rw [← g.hl, ← g.hP] at hpm
    obtain ⟨top, htop⟩ : ∃ top, top = P.getD j 0 := ⟨_, rfl⟩
    have Htop := Lib.hid htop
    have hhi := g.hi
    rw [← htop] at hhi
    have Hhi := Lib.hid hhi
    clear hhi htop
    have hpne : P ≠ [] := by intro e; have := g.tab.one; rw [e] at this; simp at this
    have hpone := g.tab.one
    have hpmost := g.tab.most
    have hjl := g.lt
    have HG := Lib.hid g
    clear g h4
    go_wp2_with fail
    refine (field_top f a b off cap _ ok H2).mono ?_
    rintro e w3 ⟨a3, b3, cap3, rfl, H3, hx3⟩
    go_wp2_with fail
    refine (hpm a3 b3 0 cap3 w3 ok H3).mono ?_
    rintro e w4 ⟨⟨ap, bp, capp, rfl, hI⟩, hx4⟩
    obtain rfl := hI.addr hpne
    clear hpm
    have t1 : decide ((64 : Int) < (P.length : Int)) = false := by simp; omega
    go_wp2_with fail
    refine (field_top f a b off cap _ ok (H2.mono (hx3.trans hx4))).mono ?_
    rintro e w5 ⟨a5, b5, cap5, rfl, H5, hx5⟩
    go_wp2_with fail
    refine (Highest_curve f n HG.out.e a5 b5 0 cap5 _ ok H5).mono ?_
    rw [Hhi.out]
    rintro e w6 ⟨rfl, hx6⟩
    have hI6 := hI.mono (hx5.trans hx6)
    go_wp2_with (at_builtin; refine append_copy _ rfl (.tmp 61) (.tmp 62) 26 rfl 3 rfl (.int .i64 0) 1 8 Try.underlying26 infoInt rfl (by decide) _ rfl (by simp) ⟨bp, 0, none⟩ P.length capp (P.map (Value.int .i64)) rfl (hI6.lt hpne) (by simp) (ints_news hI6) (ints_one P) (by simp [maxLen]; omega) (by omega) ?_; intro v' w7 hown hx7; obtain ⟨a7, b7, cap7, rfl, H7, _⟩ := owns_ints rfl hown; clear hown)
    refine (highest_inverter P j a7 b7 0 cap7 _ HG.out.tab hjl HG.out.maxL HG.out.firstMax H7).mono ?_
    rintro e w8 ⟨rfl, hx8⟩
    have hx28 := ((((hx3.trans hx4).trans hx5).trans hx6).trans hx7).trans hx8
    have hI8 := hI6.mono (hx7.trans hx8)
    go_wp2_with fail
    refine (field_top f a b off cap _ ok (H2.mono hx28)).mono ?_
    rintro e w9 ⟨a9, b9, cap9, rfl, H9, hx9⟩
    go_wp2_with fail
    refine (Peaks_curve f n HG.out.e a9 b9 0 cap9 _ ok H9).mono ?_
    obtain ⟨pk, hpk⟩ : ∃ pk, pk = peaksOf f (n + 1) := ⟨_, rfl⟩
    rw [← hpk]
    obtain ⟨pI, hpI⟩ : ∃ pI, pI = natInts pk := ⟨_, rfl⟩
    rw [← hpI]
    have Hpk := Lib.hid hpk
    have HpI := Lib.hid hpI
    clear hpk hpI
    rintro e w10 ⟨⟨ak, bk, capk, rfl, hK⟩, hx10⟩
    have hI10 := hI8.mono (hx9.trans hx10)
    go_wp2_with (at_builtin; refine append_copy _ rfl (.tmp 74) (.tmp 75) 26 rfl 3 rfl (.int .i64 0) 1 8 Try.underlying26 infoInt rfl (by decide) _ rfl (by simp) ⟨bp, 0, none⟩ P.length capp (P.map (Value.int .i64)) rfl (hI10.lt hpne) (by simp) (ints_news hI10) (ints_one P) (by simp [maxLen]; omega) (by omega) ?_; intro v' w11 hown hx11; obtain ⟨a11, b11, cap11, rfl, H11, _⟩ := owns_ints rfl hown; clear hown)
    refine (peaks_inverter P a11 b11 0 cap11 _ HG.out.tab H11).mono ?_
    obtain ⟨al, hal⟩ : ∃ al, al = (List.range P.length).filter (peakB P) := ⟨_, rfl⟩
    rw [← hal]
    have Hal := Lib.hid hal
    clear hal
    rintro e w12 ⟨aa, ba, capa, rfl, hA, hx12⟩
    have hI12 := hI10.mono (hx11.trans hx12)
    go_wp2_with (at_builtin; refine append_copy _ rfl (.tmp 81) (.tmp 82) 26 rfl 3 rfl (.int .i64 0) 1 8 Try.underlying26 infoInt rfl (by decide) _ rfl (by simp) ⟨bp, 0, none⟩ P.length capp (P.map (Value.int .i64)) rfl (hI12.lt hpne) (by simp) (ints_news hI12) (ints_one P) (by simp [maxLen]; omega) (by omega) ?_; intro v' w13 hown hx13; obtain ⟨a13, b13, cap13, rfl, H13, _⟩ := owns_ints rfl hown; clear hown)
    refine (hill_inverter P a13 b13 0 cap13 _ HG.out.tab H13).mono ?_
    rintro e w14 ⟨⟨hb, rfl, hhill⟩, hx14⟩
    have Hhill := Lib.hid hhill
    clear hhill
    have hI14 := hI12.mono (hx13.trans hx14)
    have hx814 := ((((hx9.trans hx10).trans hx11).trans hx12).trans hx13).trans hx14
    have B14 := B2.ext (hx28.trans hx814)
    have cb0 := B14.c0
    have cb1 := B14.c1
    go_wp2_with fail
    have hfr0 : 0 ≤ m0 % (P.length : Int) := Int.emod_nonneg _ (by omega)
    have hfr1 : m0 % (P.length : Int) < (P.length : Int) := Int.emod_lt_of_pos _ (by omega)
    have hwy : 1 - 2 * (m1 % 2) = 1 ∨ 1 - 2 * (m1 % 2) = -1 := by omega
    have Hwy := Lib.hid hwy
    clear hwy
    go_quiet (fail)
    generalize m0 % (P.length : Int) = frI at *
    generalize hway : 1 - 2 * (m1 % 2) = way at *
    obtain ⟨fr, rfl⟩ := Int.eq_ofNat_of_zero_le hfr0
    clear hfr0 hway
    generalize hw15 : w14.drewN _ = w15
    have hx15 : Ext w14 w15 := by rw [← hw15]; exact (Ext.refl _).drewN _
    clear hw15 cb0 cb1 B14
    have hI15 := hI14.mono hx15
    have hvis := fun aa bb cc W H => search_inverter P fr way (2 * P.length + 2) aa bb 0 cc W HG.out.tab (by omega) ⟨by dsimp only; omega, Hwy.out⟩ H
    simp only [Int.natCast_add, Int.natCast_mul, Int.cast_ofNat_Int] at hvis
    go_wp2_with (at_builtin; refine append_copy _ rfl (.tmp 100) (.tmp 101) 26 rfl 3 rfl (.int .i64 0) 1 8 Try.underlying26 infoInt rfl (by decide) _ rfl (by simp) ⟨bp, 0, none⟩ P.length capp (P.map (Value.int .i64)) rfl (hI15.lt hpne) (by simp) (ints_news hI15) (ints_one P) (by simp [maxLen]; omega) (by omega) ?_; intro v' w16 hown hx16; obtain ⟨a16, b16, cap16, rfl, H16, _⟩ := owns_ints rfl hown; clear hown)
    refine (hvis a16 b16 cap16 _ H16).mono ?_
    rintro e w17 ⟨av, bv, capv, rfl, hV, hx17⟩
    clear hvis
    have hx1417 := (hx15.trans hx16).trans hx17
    go_wp2_with fail
    refine (field_top f a b off cap _ ok (H2.mono ((hx28.trans hx814).trans hx1417))).mono ?_
    rintro e w18 ⟨a18, b18, cap18, rfl, H18, hx18⟩
    go_wp2_with fail
    refine (Certificate_curve f n HG.out.e a18 b18 0 cap18 _ ok H18).mono ?_
    rw [← HG.out.hl, Hhi.out]
    rintro e w19 ⟨⟨cs, hcert, ac, bc, capc, rfl, hC⟩, hx19⟩
    have hcI1 : 1 ≤ (natInts cs).length := by rw [natInts_length]; exact hcert.1.ne
    have hcIm : (natInts cs).length ≤ 1000 := by have h1 := hcert.1.short; rw [natInts_length]; rw [HG.out.hl, curveL_length] at h1; have := HG.out.le; omega
    have hcIl := Lib.hid (natInts_length cs).symm
    have htop1 : 0 ≤ top := by rw [Htop.out]; exact HG.out.tab.lo j hjl
    have htop2 : top ≤ 960000 := by rw [Htop.out]; have := HG.out.small ok.2.1; omega
    have hck := fun (a ac : Option Addr) (b off cap bc offc capc : Nat) (W : World) => checkCertificate_curve f n HG.out.e a ac b off cap bc offc capc cs top W ok htop1 htop2 (by rw [← HG.out.hl]; exact hcert)
    simp only [hcIl.out] at hck
    obtain ⟨cI, hcIe⟩ : ∃ cI, cI = natInts cs := ⟨_, rfl⟩
    rw [← hcIe] at hck hC hcI1 hcIm ⊢
    clear hcert hcIe hcIl
    have Htop2 := Lib.hid htop1
    clear htop1 htop2
    have hcne : cI ≠ [] := by intro e; rw [e] at hcI1; simp at hcI1
    obtain rfl := hC.addr hcne
    have hx1719 := hx18.trans hx19
    have hI19 := hI15.mono ((hx16.trans hx17).trans hx1719)
    have hV19 := hV.mono hx1719
    have cj := hI19.cell j hjl
    rw [← Htop.out, Nat.zero_add] at cj
    have ij := fun W => IntsAt.idx Try.underlying26 szInt hI19 capp j W hjl
    have hvl := visL_length P (fr, way) (2 * P.length + 2)
    have cv := hV19.cell 0 (by omega)
    rw [visL_get _ _ _ _ (by omega)] at cv
    simp only [visAt, Nat.add_zero] at cv
    have iv := fun W => IntsAt.idx Try.underlying26 szInt hV19 capv 0 W (by omega)
    rw [hvl] at iv
    simp only [Nat.add_zero, Nat.zero_add, Int.cast_ofNat_Int] at ij iv
    have Hvl := Lib.hid hvl
    clear hvl
    have t2 : ((j : Int) != (j : Int)) = false := by simp
    have t3 : (2 * (P.length : Int) + 2 + 1 != 2 * (P.length : Int) + 3) = false := by simp; omega
    have t4 : decide ((P.length : Int) ≤ (j : Int)) = false := by simp; omega
    have t4' : decide (P.length ≤ j) = false := by simp; omega
    have t5 : decide ((j : Int) < 0) = false := by simp
    have hx1019 := (((((hx11.trans hx12).trans hx13).trans hx14).trans hx15).trans hx16).trans (hx17.trans hx1719)
    have hK19 := hK.mono hx1019
    have hA19 := hA.mono (((((hx13.trans hx14).trans hx15).trans hx16).trans hx17).trans hx1719)
    have hC19 := hC
    have hw19 := (hx02.trans (hx28.trans hx814)).trans (((hx15.trans hx16).trans hx17).trans hx1719)
    have hlal : al.length ≤ 64 := by rw [Hal.out]; have := List.length_filter_le (peakB P) (List.range P.length); simp at this; omega
    have hpIl := Lib.hid (show pI.length = pk.length by rw [HpI.out, natInts_length])
    have hlpI : pI.length ≤ 1000 := by rw [hpIl.out, Hpk.out, peaksOf]; have h1 := List.length_filter_le (curPeakB (fieldPowers f (n + 1))) (List.range (n + 1)); have := HG.out.le; rw [List.length_range] at h1; omega
    have hpkf := Lib.hid (fun k (hk : k < pI.length) => Game.peaks HG.out Hpk.out Hal.out k (by rw [← hpIl.out]; exact hk))
    have hpIg := Lib.hid (fun k => (show pI.getD k 0 = ((pk.getD k 0 : Nat) : Int) by rw [HpI.out]; exact natInts_getD pk k))
    have hhasA := fun p => has_q (natInts al) p aa ba 0 capa w19 (by rw [natInts_length]; omega) hA19
    have hhasK := fun p => has_q pI p ak bk 0 capk w19 (by omega) hK19
    simp only [natInts_length] at hhasA
    go_wp2_with fail
    go_loop [185] (fun i => ∃ k : Nat, k ≤ pI.length ∧ i = .int .i64 k) (fun i => pI.length - (intOf i).toNat)
    case atStart => exact ⟨0, Nat.zero_le _, rfl⟩
    case round =>
      obtain ⟨k, hk, rfl⟩ := hrel
      by_cases hlt : k < pI.length
      · obtain ⟨p1, p2⟩ := hpkf.out k hlt
        have ck := hK19.cell k hlt
        have ik := fun W => IntsAt.idx Try.underlying26 szInt hK19 capk k W hlt
        rw [hpIg.out k] at ck
        generalize pk.getD k 0 = p at *
        have cp := hI19.cell p p1
        have ip := fun W => IntsAt.idx Try.underlying26 szInt hI19 capp p W p1
        have hmx := HG.out.max p p1
        rw [← Htop.out] at hmx
        generalize P.getD p 0 = q at *
        simp only [Nat.zero_add] at ck ik cp ip
        have Hp2 := Lib.hid p2
        clear p2
        have u1 : decide ((p : Int) < 0) = false := by simp
        have u2 : decide ((P.length : Int) ≤ (p : Int)) = false := by simp; omega
        have u2' : decide (P.length ≤ p) = false := by simp; omega
        have u3 : decide (top < q) = false := by simp; omega
        go_wp2_with fail
        refine (hhasA _).mono ?_
        rw [Hp2.out]
        rintro e w' ⟨rfl, rfl⟩
        go_wp2
        go_round
        case rel => exact ⟨k + 1, by omega, by go_num⟩
        case measure => simp [intOf]; omega
      · have hge : ¬ k < pI.length := hlt
        clear hlt
        go_upto_region 22 with fail
        go_cut [219] from 212 to 219 (fun s wx => s = .bool false ∧ w19 = wx)
        case first =>
          by_cases hpos : 0 < top
          · have hin := Lib.hid (HG.out.topIn Hpk.out (by rw [← Htop.out]; exact hpos))
            rw [← HpI.out] at hin
            go_wp2_with fail
            refine (hhasK _).mono ?_
            rw [hin.out]
            rintro e w' ⟨rfl, rfl⟩
            go_wp2_with fail
            go_meet
            exact ⟨rfl, rfl⟩
          · go_wp2_with fail
            go_meet
            exact ⟨rfl, rfl⟩
        case rest =>
          obtain ⟨rfl, rfl⟩ := hcut
          have hvok : StateOk P (fr, way) := ⟨by dsimp only; omega, Hwy.out⟩
          have hvf := Lib.hid (fun k hk => visits_facts hvok (2 * P.length + 2) k hk)
          clear hvok
          generalize hVg : visL P (fr, way) (2 * P.length + 2) = V at *
          have HV := Lib.hid hVg
          clear hVg
          go_wp2_with fail
          go_loopw [26] (fun i wr => ∃ k : Nat, k ≤ 2 * P.length + 2 ∧ i = .int .i64 ((k : Int) + 1) ∧ Ext w19 wr) (fun i _ => 2 * P.length + 4 - (intOf i).toNat)
          case atStart => exact ⟨0, by omega, rfl, Ext.refl _⟩
          case round =>
            obtain ⟨k2, hk2, rfl, hx⟩ := hrel
            by_cases hlt2 : k2 < 2 * P.length + 2
            · obtain ⟨pa, pb, ea, eb, la, lb, n1, n2, hc⟩ := hvf.out k2 (by omega)
              have hVr := hV19.mono hx
              have hIr := hI19.mono hx
              have ca := hVr.cell k2 (by rw [Hvl.out]; omega)
              have cb := hVr.cell (k2 + 1) (by rw [Hvl.out]; omega)
              rw [ea] at ca
              rw [eb] at cb
              have ia := fun W => IntsAt.idx Try.underlying26 szInt hVr capv k2 W (by rw [Hvl.out]; omega)
              have ib := fun W => IntsAt.idx Try.underlying26 szInt hVr capv (k2 + 1) W (by rw [Hvl.out]; omega)
              rw [Hvl.out] at ia ib
              simp only [Nat.zero_add, Int.natCast_add, Int.cast_ofNat_Int] at ca cb ia ib
              have Hc := Lib.hid hc
              have Ha := Lib.hid ea
              have Hb := Lib.hid eb
              clear hc ea eb
              go_wp2_with fail
              go_quiet (fail)
              generalize hwq : wr.drewN _ = wq
              have hxq : Ext w19 wq := by rw [← hwq]; exact hx.drewN _
              clear hwq
              have hVq := hV19.mono hxq
              have hIq := hI19.mono hxq
              go_wp2_with fail
              by_cases h2 : k2 + 2 ≤ 2 * P.length + 2
              · obtain ⟨pc, ec, hturn⟩ := Hc.out h2
                have s1 : decide ((k2 : Int) + 1 + 1 < 2 * (P.length : Int) + 2 + 1) = true := by simp; omega
                have s1' : decide ((k2 : Int) + 1 < 2 * (P.length : Int) + 2) = true := by simp; omega
                have cc := hVq.cell (k2 + 1 + 1) (by rw [Hvl.out]; omega)
                rw [show k2 + 1 + 1 = k2 + 2 by omega, ec] at cc
                have ic := fun W => IntsAt.idx Try.underlying26 szInt hVq capv (k2 + 1 + 1) W (by rw [Hvl.out]; omega)
                rw [Hvl.out] at ic
                simp only [Nat.zero_add, Int.natCast_add, Int.cast_ofNat_Int] at cc ic
                have Hec := Lib.hid ec
                have Hturn := Lib.hid hturn
                clear ec hturn
                by_cases e2 : pb = pa
                · have s2 : ((pb : Int) != (pa : Int)) = false := by simp; omega
                  have He2 := Lib.hid e2
                  clear e2
                  go_quiet (fail)
                  go_wp2_with fail
                  go_roundw
                  case rel => exact ⟨k2 + 1, by omega, by go_num, hxq.drewN _⟩
                  case measure => simp [intOf]; omega
                · have s2 : ((pb : Int) != (pa : Int)) = true := by simp; omega
                  by_cases e3 : pc = pa
                  · have s3 : ((pc : Int) == (pa : Int)) = true := by simp; omega
                    have hlow := Hturn.out e2 e3
                    have qa := hIq.cell pa la
                    have qb := hIq.cell pb lb
                    have ja := fun W => IntsAt.idx Try.underlying26 szInt hIq capp pa W la
                    have jb := fun W => IntsAt.idx Try.underlying26 szInt hIq capp pb W lb
                    simp only [Nat.zero_add] at qa qb ja jb
                    generalize P.getD pa 0 = va at *
                    generalize P.getD pb 0 = vb at *
                    have s4 : decide (va ≤ vb) = false := by simp; omega
                    have He3 := Lib.hid e3
                    clear e2 e3
                    go_quiet (fail)
                    go_wp2_with fail
                    go_roundw
                    case rel => exact ⟨k2 + 1, by omega, by go_num, hxq.drewN _⟩
                    case measure => simp [intOf]; omega
                  · have s3 : ((pc : Int) == (pa : Int)) = false := by simp; omega
                    clear e2 e3
                    go_quiet (fail)
                    go_wp2_with fail
                    go_roundw
                    case rel => exact ⟨k2 + 1, by omega, by go_num, hxq.drewN _⟩
                    case measure => simp [intOf]; omega
              · have s1 : decide ((k2 : Int) + 1 + 1 < 2 * (P.length : Int) + 2 + 1) = false := by simp; omega
                have s1' : decide ((k2 : Int) + 1 < 2 * (P.length : Int) + 2) = false := by simp; omega
                go_quiet (fail)
                go_wp2_with fail
                go_roundw
                case rel => exact ⟨k2 + 1, by omega, by go_num, hxq.drewN _⟩
                case measure => simp [intOf]; omega
            · have hk2e : k2 = 2 * P.length + 2 := by omega
              have v1 : decide ((k2 : Int) + 1 < 2 * (P.length : Int) + 2 + 1) = false := by simp; omega
              have v2 : decide ((k2 : Int) < 2 * (P.length : Int) + 2) = false := by simp; omega
              clear hk2e
              go_upto_region 32 with fail
              go_cut [300] from 296 to 300 (fun s wx => ∃ q : Bool, s = .bool q ∧ QSays q hb top ∧ wr = wx)
              case first =>
                by_cases hpos : 0 < top
                · have hq : QSays hb hb top := fun h => ⟨h, hpos⟩
                  have Hq := Lib.hid hq
                  clear hq
                  cases hb
                  · go_wp2_with fail
                    go_meet
                    exact ⟨false, rfl, Hq.out, rfl⟩
                  · go_wp2_with fail
                    go_meet
                    exact ⟨true, rfl, Hq.out, rfl⟩
                · cases hb
                  · go_wp2_with fail
                    go_meet
                    exact ⟨false, rfl, fun h => (by cases h), rfl⟩
                  · go_wp2_with fail
                    go_meet
                    exact ⟨false, rfl, fun h => (by cases h), rfl⟩
              case rest =>
                obtain ⟨q, rfl, hq, rfl⟩ := hcut
                have Hq := Lib.hid hq
                clear hq
                go_upto_if 300 with fail
                go_cut [29] from 301 to 321 (fun s wx => wr = wx)
                case first =>
                  cases q
                  · go_wp2_with fail
                    go_meet
                    exact rfl
                  · obtain ⟨hb1, hb2⟩ := Hq.out rfl
                    have hP := Hhill.out hb1
                    clear hb1
                    have hone : pI.length = 1 := by rw [hpIl.out]; exact HG.out.onePeak Hpk.out hP (by rw [← Htop.out]; exact hb2)
                    have hse := search_end (HG.out.hilly hP) (fr, way) ⟨by dsimp only; omega, Hwy.out⟩ (2 * P.length + 2) (by omega)
                    have hVr := hV19.mono hx
                    have ce := hVr.cell (2 * P.length + 2) (by rw [Hvl.out]; omega)
                    rw [← HV.out, visL_get _ _ _ _ (Nat.le_refl _)] at ce
                    have ie := fun W => IntsAt.idx Try.underlying26 szInt hVr capv (2 * P.length + 2) W (by rw [Hvl.out]; omega)
                    rw [Hvl.out] at ie
                    simp only [Nat.zero_add, Int.natCast_add, Int.natCast_mul, Int.cast_ofNat_Int] at ce ie
                    generalize (visAt P (fr, way) (2 * P.length + 2)).1 = z at *
                    have z1 : ((pI.length : Int) != 1) = false := by simp; omega
                    have z2 : decide ((z : Int) < (j : Int) - 1) = false := by simp; omega
                    have z3 : decide ((j : Int) + 1 < (z : Int)) = false := by simp; omega
                    clear hone hP hb2
                    go_wp2_with fail
                    go_meet
                    exact rfl
                case rest =>
                  subst hcut
                  have y1 : decide ((cI.length : Int) < 1) = false := by simp; omega
                  go_wp2_with fail
                  refine (field_top f a b off cap _ ok (H.mono (hw19.trans hx))).mono ?_
                  rintro e w20 ⟨a20, b20, cap20, rfl, H20, hx20⟩
                  have hC20 := hC19.mono (hx.trans hx20)
                  have H20' := fun W (x : Ext w20 W) => H20.mono x
                  go_wp2_with (at_builtin; refine append_copyW _ (by rfl) (.tmp 329) (.tmp 330) 26 rfl 3 rfl (.int .i64 0) 1 8 Try.underlying26 infoInt rfl (by decide) _ rfl (by simp) ⟨bc, 0, none⟩ cI.length capc (cI.map (Value.int .i64)) rfl (hC20.lt hcne) (by simp) (ints_news hC20) (ints_one cI) (by simp [maxLen]; omega) (by omega) ?_; intro v' w21 hown hx21; obtain ⟨a21, b21, cap21, rfl, H21, _⟩ := owns_ints rfl hown; clear hown)
                  refine (hck _ _ _ _ _ _ _ _ _ (H20' _ hx21) H21).mono ?_
                  rintro e w22 ⟨rfl, hx22⟩
                  have hxx := ((hw19.trans hx).trans hx20).trans (hx21.trans hx22)
                  have hI22 := hI19.mono (((hx.trans hx20).trans hx21).trans hx22)
                  go_wp2_with fail
                  go_loop [337] (fun i => ∃ k : Nat, k ≤ P.length ∧ i = .int .i64 k) (fun i => P.length - (intOf i).toNat)
                  case atStart => exact ⟨0, Nat.zero_le _, rfl⟩
                  case round =>
                    obtain ⟨k3, hk3, rfl⟩ := hrel
                    by_cases hlt3 : k3 < P.length
                    · have cp := hI22.cell k3 hlt3
                      have ip := fun W => IntsAt.idx Try.underlying26 szInt hI22 capp k3 W hlt3
                      have hmx := HG.out.max k3 hlt3
                      rw [← Htop.out] at hmx
                      generalize P.getD k3 0 = q3 at *
                      simp only [Nat.zero_add] at cp ip
                      have u3 : decide (top < q3) = false := by simp; omega
                      go_wp2
                      go_round
                      case rel => exact ⟨k3 + 1, by omega, by go_num⟩
                      case measure => simp [intOf]; omega
                    · go_wp2
                      go_ret
                      exact ⟨rfl, hxx⟩
end Go.Proofs.Ytencdgmcpnbfcaa
