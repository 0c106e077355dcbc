/- combinerref04: cells, chains, fields; what is short. -/
import Derived.Test.YtencdgmcpnbfcaaRefA
import Derived.Test.YtencdgmcpnbfcaaBase2
namespace Go.Proofs.Ytencdgmcpnbfcaa
open Go.RowKit
set_option maxHeartbeats 2000000
set_option maxRecDepth 100000
def CellP (c : PCell) (e : Int) : Prop := e = 0 → CellOk c
def ChainP (cs : List PCell) (e : Int) : Prop := e = 0 → 1 ≤ cs.length ∧ cs.length ≤ 8 ∧ ∀ c ∈ cs, CellOk c
abbrev FieldValid := FieldOk'
def FieldP (f : List (List PCell)) (e : Int) : Prop := e = 0 → FieldValid f
def ShortC (cs : List PCell) (s : Bool) : Prop := s = true → cs.length ≤ 9 ∧ ∀ c ∈ cs, c.tab.length ≤ 9
def ShortF (f : List (List PCell)) (s : Bool) : Prop := s = true → f.length ≤ 7 ∧ ∀ cs ∈ f, cs.length ≤ 9 ∧ ∀ c ∈ cs, c.tab.length ≤ 9
theorem szCellR : ∀ W : World, (sizeOf 59).run Try.prog W = .ok 3 W := fun _ => by kernel_rfl
theorem szChainR : ∀ W : World, (sizeOf 46).run Try.prog W = .ok 1 W := fun _ => by kernel_rfl

theorem checkCell_r04 (c : PCell) (a : Option Addr) (b off cap : Nat) (w : World) (hm : c.tab.length ≤ 1000000000) (H : PtsAt w a b off c.tab) :
  Calls Try.prog 59 #[.agg #[.slice a c.tab.length cap, .int .i64 c.light, .int .i64 c.drop]] w fun r w' =>
    SomeInt (CellP c) r ∧ Ext w w' := by
  have key : ∀ e1, (e1 = 0 → TabOk c.tab) → firstL [e1, withinL c.light 0 1000, withinL c.drop 0 10] = 0 → CellOk c := fun e1 h1 h => by
    obtain ⟨a1, a2, a3⟩ := firstL_three.1 h
    rw [withinL_zero] at a2 a3
    exact ⟨h1 a1, a2.1, a2.2, a3.1, a3.2⟩
  have Key := Lib.hid key
  clear key
  go_enter Try.func59, Try.ntmps59
  go_wp2
  go_region_held3 (fun w' => w'.cell? ⟨w.heap.size, 0, none⟩ = some (.slice a c.tab.length cap) ∧ w'.cell? ⟨w.heap.size, 1, none⟩ = some (.int .i64 c.light) ∧ w'.cell? ⟨w.heap.size, 2, none⟩ = some (.int .i64 c.drop)) (first | go_keep | exact ⟨keep_ext hx (by simp) (by simp), keep_ext hx (by simp) (by simp), keep_ext hx (by simp) (by simp)⟩ | (obtain ⟨q1, q2, q3⟩ := ‹_ ∧ _ ∧ _›; exact ⟨keep_ext hy (Nat.lt_of_lt_of_le (by simp) hx.size) ((World.cell?_alloc_past _ _ _ (Nat.lt_of_lt_of_le (by simp) hx.size)).symm.trans q1), keep_ext hy (Nat.lt_of_lt_of_le (by simp) hx.size) ((World.cell?_alloc_past _ _ _ (Nat.lt_of_lt_of_le (by simp) hx.size)).symm.trans q2), keep_ext hy (Nat.lt_of_lt_of_le (by simp) hx.size) ((World.cell?_alloc_past _ _ _ (Nat.lt_of_lt_of_le (by simp) hx.size)).symm.trans q3)⟩)) (first | (go_at_call 68; refine (checkTable_r04 c.tab a b off cap _ hm (H.mono (((Ext.refl _).alloc _).drew))).mono ?_; rintro e w' ⟨⟨e1, rfl, he1⟩, hx⟩; have He1 := Lib.hid he1; clear he1) | (go_at_call 69; refine (range_q _ _ _ _).mono ?_; rintro e w' ⟨rfl, rfl⟩) | (go_at_call 41; refine (first_q3 _ _ _ _ _).mono ?_; rintro e w' ⟨rfl, hy⟩))
  go_wp2
  go_ret
  exact ⟨someInt (Key.out _ He1.out), ((((Ext.refl w).alloc _).drew).trans hx).trans hy⟩

theorem checkChain_r04 (cs : List PCell) (a : Option Addr) (b off cap : Nat) (w : World) (hn : cs.length ≤ 1000000000) (hm : ∀ c ∈ cs, c.tab.length ≤ 1000000000) (H : CellsAt w a b off cs) :
  Calls Try.prog 43 #[.slice a cs.length cap] w fun r w' => SomeInt (ChainP cs) r ∧ Ext w w' := by
  by_cases h0 : (cs.length : Int) = 0
  · have hb : ((cs.length : Int) == 0) = true := by simp [h0]
    have k12 : (firstL [12, 0] != 0) = true := by decide
    have h8 : ¬ 8 < cs.length := by omega
    clear h0
    go_enter Try.func43, Try.ntmps43
    go_wp2_with (first | (go_at_call 42; refine (when_q _ _ _).mono ?_; rintro e w' ⟨rfl, rfl⟩) | (go_at_call 41; refine (first_q2 _ _ _ _).mono ?_; rintro e w1 ⟨rfl, hx1⟩))
    go_ret
    exact ⟨someInt (fun h => by simp [firstL] at h), ‹Ext _ _›⟩
  have hb : ((cs.length : Int) == 0) = false := by simpa using h0
  by_cases h8 : 8 < cs.length
  · go_enter Try.func43, Try.ntmps43
    go_wp2_with (first | (go_at_call 42; refine (when_q _ _ _).mono ?_; rintro e w' ⟨rfl, rfl⟩) | (go_at_call 41; refine (first_q2 _ _ _ _).mono ?_; rintro e w1 ⟨rfl, hx1⟩))
    go_ret
    exact ⟨someInt (fun h => by simp [firstL] at h), ‹Ext _ _›⟩
  go_enter Try.func43, Try.ntmps43
  go_wp2_with (first | (go_at_call 42; refine (when_q _ _ _).mono ?_; rintro e w' ⟨rfl, rfl⟩) | (go_at_call 41; refine (first_q2 _ _ _ _).mono ?_; rintro e w1 ⟨rfl, hx1⟩))
  go_loopw [4] (fun i wr => ∃ k : Nat, k ≤ cs.length ∧ i = .int .i64 k ∧ (∀ j, j < k → CellOk (cs.getD j default)) ∧ Ext w wr) (fun i _ => cs.length - (intOf i).toNat)
  case atStart => exact ⟨0, Nat.zero_le _, rfl, fun j hj => by omega, hx1⟩
  case round =>
    obtain ⟨k, hk, rfl, hf, hx⟩ := hrel
    have Hf := Lib.hid hf
    clear hf
    by_cases hlt : k < cs.length
    · have hidx := fun W => CellsAt.idx Try.underlying46 szCellR H cap k W hlt
      obtain ⟨ta, tb, toff, tcap, e1, e2, e3, e4⟩ := (H.mono hx).cell k hlt
      have hmem := hm (cs.getD k default) (by simp [List.getD_eq_getElem?_getD, hlt])
      generalize hc : cs.getD k default = c at *
      have Hc := Lib.hid hc
      clear hc
      go_wp2_with fail
      refine (checkCell_r04 c ta tb toff tcap _ hmem e1).mono ?_
      rintro e w2 ⟨⟨e, rfl, he⟩, hx2⟩
      have He := Lib.hid he
      clear he
      by_cases hz : (e != 0) = true
      · go_wp2
        go_ret
        exact ⟨someInt (fun h => by simp [h] at hz), hx.trans hx2⟩
      · have hz' : (e != 0) = false := by simpa using hz
        clear hz
        go_wp2
        exact ⟨⟨k + 1, by omega, by go_num, lt_snoc Hf.out (by rw [Hc.out]; exact He.out (by simpa using hz')), hx.trans hx2⟩, by simp [intOf]; omega⟩
    · go_wp2
      go_ret
      exact ⟨someInt (fun _ => ⟨by omega, by omega, fun c hc => by
        obtain ⟨j, hj, e⟩ := List.getElem_of_mem hc
        have := Hf.out j (by omega)
        simpa [List.getD_eq_getElem?_getD, hj, e] using this⟩), hx⟩

theorem checkField_r04 (f : List (List PCell)) (a : Option Addr) (b off cap : Nat) (w : World) (hn : f.length ≤ 1000000000) (hm : ∀ cs ∈ f, cs.length ≤ 1000000000 ∧ ∀ c ∈ cs, c.tab.length ≤ 1000000000) (H : FieldAt w a b off f) :
  Calls Try.prog 18 #[.slice a f.length cap] w fun r w' => SomeInt (FieldP f) r ∧ Ext w w' := by
  by_cases h0 : (f.length : Int) = 0
  · have hb : ((f.length : Int) == 0) = true := by simp [h0]
    have k12 : (firstL [12, 0] != 0) = true := by decide
    have h8 : ¬ 6 < f.length := by omega
    clear h0
    go_enter Try.func18, Try.ntmps18
    go_wp2_with (first | (go_at_call 42; refine (when_q _ _ _).mono ?_; rintro e w' ⟨rfl, rfl⟩) | (go_at_call 41; refine (first_q2 _ _ _ _).mono ?_; rintro e w1 ⟨rfl, hx1⟩))
    go_ret
    exact ⟨someInt (fun h => by simp [firstL] at h), ‹Ext _ _›⟩
  have hb : ((f.length : Int) == 0) = false := by simpa using h0
  by_cases h8 : 6 < f.length
  · go_enter Try.func18, Try.ntmps18
    go_wp2_with (first | (go_at_call 42; refine (when_q _ _ _).mono ?_; rintro e w' ⟨rfl, rfl⟩) | (go_at_call 41; refine (first_q2 _ _ _ _).mono ?_; rintro e w1 ⟨rfl, hx1⟩))
    go_ret
    exact ⟨someInt (fun h => by simp [firstL] at h), ‹Ext _ _›⟩
  go_enter Try.func18, Try.ntmps18
  go_wp2_with (first | (go_at_call 42; refine (when_q _ _ _).mono ?_; rintro e w' ⟨rfl, rfl⟩) | (go_at_call 41; refine (first_q2 _ _ _ _).mono ?_; rintro e w1 ⟨rfl, hx1⟩))
  go_loopw [4] (fun i wr => ∃ k : Nat, k ≤ f.length ∧ i = .int .i64 k ∧ (∀ j, j < k → 1 ≤ (f.getD j []).length ∧ (f.getD j []).length ≤ 8 ∧ ∀ c ∈ f.getD j [], CellOk c) ∧ Ext w wr) (fun i _ => f.length - (intOf i).toNat)
  case atStart => exact ⟨0, Nat.zero_le _, rfl, fun j hj => by omega, hx1⟩
  case round =>
    obtain ⟨k, hk, rfl, hf, hx⟩ := hrel
    have Hf := Lib.hid hf
    clear hf
    by_cases hlt : k < f.length
    · have hidx := fun W => FieldAt.idx Try.underlying22 szChainR H cap k W hlt
      obtain ⟨ta, tb, toff, tcap, e1, e2⟩ := (H.mono hx).cell k hlt
      have hmem := hm (f.getD k []) (by simp [List.getD_eq_getElem?_getD, hlt])
      generalize hc : f.getD k [] = c at *
      have Hc := Lib.hid hc
      clear hc
      go_wp2_with fail
      refine (checkChain_r04 c ta tb toff tcap _ hmem.1 hmem.2 e1).mono ?_
      rintro e w2 ⟨⟨e, rfl, he⟩, hx2⟩
      have He := Lib.hid he
      clear he
      by_cases hz : (e != 0) = true
      · go_wp2
        go_ret
        exact ⟨someInt (fun h => by simp [h] at hz), hx.trans hx2⟩
      · have hz' : (e != 0) = false := by simpa using hz
        clear hz
        go_wp2
        exact ⟨⟨k + 1, by omega, by go_num, lt_snoc Hf.out (by rw [Hc.out]; exact He.out (by simpa using hz')), hx.trans hx2⟩, by simp [intOf]; omega⟩
    · go_wp2
      go_ret
      exact ⟨someInt (fun _ => ⟨by omega, by omega, fun c hc => by
        obtain ⟨j, hj, e⟩ := List.getElem_of_mem hc
        have := Hf.out j (by omega)
        simpa [List.getD_eq_getElem?_getD, hj, e] using this⟩), hx⟩

theorem shortTable_r04 (n cap : Nat) (a : Option Addr) (w : World) :
  Calls Try.prog 58 #[.slice a n cap] w fun r w' => r = .returned (.bool (decide (n ≤ 9))) ∧ w = w' := by
  go_enter Try.func58, Try.ntmps58
  go_wp2
  go_ret
  exact ⟨ret_bool (by simp; omega), rfl⟩

theorem shortChain_r04 (cs : List PCell) (a : Option Addr) (b off cap : Nat) (w : World) (hn : cs.length ≤ 100000000000000) (H : CellsAt w a b off cs) :
  Calls Try.prog 40 #[.slice a cs.length cap] w fun r w' => SomeBool (ShortC cs) r ∧ w = w' := by
  have fin : (6 < cs.length → cs.length = 9) → cs.length ≤ 9 := fun h => by omega
  by_cases hlong : 6 < cs.length ∧ cs.length ≠ 9
  · have c1 : ((cs.length : Int) != 9) = true := by simp; omega
    have c2 := hlong.1
    clear hlong fin
    go_enter Try.func40, Try.ntmps40
    go_wp2
    go_ret
    exact ⟨someBool (fun h => by simp at h), rfl⟩
  have h9 : cs.length ≤ 9 := fin (fun h => by omega)
  have main : ∀ c, ((6 < cs.length ∧ ((cs.length : Int) != 9) = c ∧ c = false) ∨ ¬ 6 < cs.length) → Calls Try.prog 40 #[.slice a cs.length cap] w fun r w' => SomeBool (ShortC cs) r ∧ w = w' := by
    clear hlong fin
    rintro c (⟨c2, c1, rfl⟩ | c2)
    all_goals
      go_enter Try.func40, Try.ntmps40
      go_wp2
      go_loop [3] (fun i => ∃ k : Nat, k ≤ cs.length ∧ i = .int .i64 k ∧ (∀ j, j < k → (cs.getD j default).tab.length ≤ 9)) (fun i => cs.length - (intOf i).toNat)
      case atStart => exact ⟨0, Nat.zero_le _, rfl, fun j hj => by omega⟩
      case round =>
        obtain ⟨k, hk, rfl, hf⟩ := hrel
        have Hf := Lib.hid hf
        clear hf
        by_cases hlt : k < cs.length
        · have hidx := fun W => CellsAt.idx Try.underlying46 szCellR H cap k W hlt
          obtain ⟨ta, tb, toff, tcap, e1, e2, e3, e4⟩ := H.cell k hlt
          generalize hc : (cs.getD k default).tab = c at *
          have Hc := Lib.hid hc
          clear hc
          by_cases hs : c.length ≤ 9
          all_goals
            go_wp2_with (go_at_call 58; refine (shortTable_r04 _ _ _ _).mono ?_; rintro e w' ⟨rfl, rfl⟩)
            first
              | (go_ret; exact ⟨someBool (fun h => by simp at h), rfl⟩)
              | exact ⟨⟨k + 1, by omega, by go_num, lt_snoc Hf.out (by rw [Hc.out]; exact hs)⟩, by simp [intOf]; omega⟩
        · go_wp2
          go_ret
          exact ⟨someBool (fun _ => ⟨h9, fun c hc => by
            obtain ⟨j, hj, e⟩ := List.getElem_of_mem hc
            have := Hf.out j (by omega)
            simpa [List.getD_eq_getElem?_getD, hj, e] using this⟩), rfl⟩
  exact main false (by by_cases h6 : 6 < cs.length
                       · exact .inl ⟨h6, by simp; omega, rfl⟩
                       · exact .inr h6)

theorem shortField_r04 (f : List (List PCell)) (a : Option Addr) (b off cap : Nat) (w : World) (hn : f.length ≤ 100000000000000) (hm : ∀ cs ∈ f, cs.length ≤ 100000000000000) (H : FieldAt w a b off f) :
  Calls Try.prog 17 #[.slice a f.length cap] w fun r w' => SomeBool (ShortF f) r ∧ w = w' := by
  by_cases hlong : 4 < f.length ∧ f.length ≠ 7
  · have c1 : ((f.length : Int) != 7) = true := by simp; omega
    have c2 := hlong.1
    clear hlong
    go_enter Try.func17, Try.ntmps17
    go_wp2
    go_ret
    exact ⟨someBool (fun h => by simp at h), rfl⟩
  have h9 : Hid (f.length ≤ 7) := by unfold Hid; omega
  have hle : f.length ≤ 7 := h9.out
  have main : ((4 < f.length ∧ ((f.length : Int) != 7) = false) ∨ ¬ 4 < f.length) → Calls Try.prog 17 #[.slice a f.length cap] w fun r w' => SomeBool (ShortF f) r ∧ w = w' := by
    clear hlong
    rintro (⟨c2, c1⟩ | c2)
    all_goals
      go_enter Try.func17, Try.ntmps17
      go_wp2
      go_loop [3, 4] (fun s i => ∃ (k : Nat) (n : Int), k ≤ f.length ∧ i = .int .i64 k ∧ s = .int .i64 n ∧ 0 ≤ n ∧ n ≤ 9 * k ∧ (∀ j, j < k → (f.getD j []).length ≤ 9 ∧ ∀ c ∈ f.getD j [], c.tab.length ≤ 9)) (fun _ i => f.length - (intOf i).toNat)
      case atStart => exact ⟨0, 0, Nat.zero_le _, rfl, rfl, by omega, by omega, fun j hj => by omega⟩
      case round =>
        obtain ⟨k, n, hk, rfl, rfl, hn0, hn1, hf⟩ := hrel
        have Hf := Lib.hid hf
        clear hf
        by_cases hlt : k < f.length
        · have hidx := fun W => FieldAt.idx Try.underlying22 szChainR H cap k W hlt
          obtain ⟨ta, tb, toff, tcap, e1, e2⟩ := H.cell k hlt
          have hmem := hm (f.getD k []) (by simp [List.getD_eq_getElem?_getD, hlt])
          generalize hc : f.getD k [] = c at *
          have Hc := Lib.hid hc
          clear hc
          go_wp2_with fail
          refine (shortChain_r04 c ta tb toff tcap _ hmem e1).mono ?_
          rintro e w2 ⟨⟨s, rfl, hs⟩, rfl⟩
          cases s
          · go_wp2
            go_ret
            exact ⟨someBool (fun h => by simp at h), rfl⟩
          · have hs' := hs rfl
            have hl9 := hs'.1
            have Hs := Lib.hid hs'
            clear hs hs'
            go_wp2
            exact ⟨⟨k + 1, n + c.length, by omega, by go_num, rfl, by omega, by omega, lt_snoc Hf.out (by rw [Hc.out]; exact Hs.out)⟩, by simp [intOf]; omega⟩
        · have fin : ShortF f (decide (n ≤ 24)) := fun _ => ⟨h9.out, fun c hc => by
            obtain ⟨j, hj, e⟩ := List.getElem_of_mem hc
            have := Hf.out j (by omega)
            simpa [List.getD_eq_getElem?_getD, hj, e] using this⟩
          have Hfin := Lib.hid fin
          clear fin
          go_wp2
          go_ret
          exact ⟨someBool Hfin.out, rfl⟩
  exact main (by by_cases h6 : 4 < f.length
                 · exact .inl ⟨h6, by simp; omega⟩
                 · exact .inr h6)
end Go.Proofs.Ytencdgmcpnbfcaa
