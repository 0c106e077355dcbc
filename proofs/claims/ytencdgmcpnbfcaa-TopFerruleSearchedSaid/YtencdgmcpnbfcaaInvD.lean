/- inverter: the iterator of a search's visits. -/
import Derived.Test.YtencdgmcpnbfcaaSeq
namespace Go.Proofs.Ytencdgmcpnbfcaa
open Go.RowKit Go.Shelf
set_option maxHeartbeats 2000000
set_option maxRecDepth 100000
attribute [local go_sem] Oper.semAt_some

/-- One step of a search: where it stands, and its direction. -/
def visStep (xs : List Int) (s : Nat × Int) : Nat × Int :=
  if (s.1 : Int) + s.2 < 0 ∨ (xs.length : Int) ≤ (s.1 : Int) + s.2 then (s.1, -s.2)
  else if xs.getD ((s.1 : Int) + s.2).toNat 0 < xs.getD s.1 0 then (((s.1 : Int) + s.2).toNat, -s.2) else (((s.1 : Int) + s.2).toNat, s.2)
def visAt (xs : List Int) (s : Nat × Int) : Nat → Nat × Int
  | 0 => s
  | k + 1 => visStep xs (visAt xs s k)
def visL (xs : List Int) (s : Nat × Int) (k : Nat) : List Int := (List.range (k + 1)).map fun j => ((visAt xs s j).1 : Int)
theorem visL_next (xs : List Int) (s : Nat × Int) (k : Nat) : visL xs s (k + 1) = visL xs s k ++ [((visAt xs s (k + 1)).1 : Int)] := by
  rw [visL, List.range_succ, List.map_append]; rfl
theorem visL_length (xs : List Int) (s : Nat × Int) (k : Nat) : (visL xs s k).length = k + 1 := by simp [visL]
theorem visL_prefix (xs : List Int) (s : Nat × Int) {k n : Nat} (h : k ≤ n) : visL xs s k <+: visL xs s n := by
  refine ⟨((List.range (n + 1)).map fun j => ((visAt xs s j).1 : Int)).drop (k + 1), ?_⟩
  rw [visL, visL]
  conv => rhs; rw [← List.take_append_drop (k + 1) ((List.range (n + 1)).map fun j => ((visAt xs s j).1 : Int))]
  congr 1
  rw [← List.map_take, List.take_range]
  congr 2
  omega
def StateOk (xs : List Int) (s : Nat × Int) : Prop := s.1 < xs.length ∧ (s.2 = 1 ∨ s.2 = -1)
theorem visStep_ok {xs : List Int} {s : Nat × Int} (h : StateOk xs s) : StateOk xs (visStep xs s) := by
  obtain ⟨h1, h2⟩ := h
  unfold visStep
  split
  · exact ⟨h1, by simp; omega⟩
  · rename_i h3
    split
    · exact ⟨by simp; omega, by simp; omega⟩
    · exact ⟨by simp; omega, h2⟩
theorem visAt_ok {xs : List Int} {s : Nat × Int} (h : StateOk xs s) : ∀ k, StateOk xs (visAt xs s k)
  | 0 => h
  | k + 1 => visStep_ok (visAt_ok h k)

/-- What the iterator reads: how many steps, its direction, the table. -/
structure VisW (Bn Bd Bl b off cap : Nat) (a : Option Addr) (xs : List Int) (n : Nat) (d : Int) (W : World) : Prop where
  n : Boxed W Bn 3 (.int .i64 (n : Int))
  d : Boxed W Bd 3 (.int .i64 d)
  l : Boxed W Bl 26 (.slice a xs.length cap)
  i : IntsAt W a b off xs
theorem IntsAt.same {A B : World} {a : Option Addr} {b off : Nat} {xs : List Int} (h : IntsAt A a b off xs) (hne : xs ≠ []) (e : B.heap[b]? = A.heap[b]?) : IntsAt B a b off xs := by
  refine ⟨h.addr, fun _ => ?_, fun i hi => (cell_same e).trans (h.cell i hi)⟩
  have h1 := h.lt hne
  rw [Array.getElem?_eq_getElem h1] at e
  exact (Array.getElem?_eq_some_iff.1 e).1
theorem VisW.keeps {X : Nat → Prop} {hi Bn Bd Bl b off cap : Nat} {a : Option Addr} {xs : List Int} {n : Nat} {d : Int} {A B : World} (h : VisW Bn Bd Bl b off cap a xs n d A) (k : KeepsBut X hi A B) (hne : xs ≠ [])
    (h1 : Bn < hi ∧ ¬ X Bn) (h2 : Bd < hi ∧ ¬ X Bd) (h3 : Bl < hi ∧ ¬ X Bl) (h4 : b < hi ∧ ¬ X b) : VisW Bn Bd Bl b off cap a xs n d B :=
  ⟨(k _ h1.1 h1.2).trans h.n, (k _ h2.1 h2.2).trans h.d, (k _ h3.1 h3.2).trans h.l, h.i.same hne (k _ h4.1 h4.2)⟩
theorem VisW.store {Bn Bd Bl b off cap : Nat} {a : Option Addr} {xs : List Int} {n : Nat} {d : Int} {A : World} (h : VisW Bn Bd Bl b off cap a xs n d A) (d' : Int) (h1 : Bn ≠ Bd) (h3 : Bl ≠ Bd) (h4 : b ≠ Bd) :
    VisW Bn Bd Bl b off cap a xs n d' (A.setCell ⟨Bd, 0, none⟩ (.int .i64 d')) :=
  ⟨h.n.kept (grownBy_setCell' _ _ _) (by simpa using h1), h.d.set _, h.l.kept (grownBy_setCell' _ _ _) (by simpa using h3), h.i.setCell (fun e => h4 e.symm) _⟩
theorem grownBy_drewN (W : World) (k : Nat) (row : Option Nat) : W.grownBy (W.drewN k) row := ⟨rfl, rfl, rfl, Nat.le_refl _, fun _ _ _ => rfl⟩
theorem VisW.drewN {Bn Bd Bl b off cap : Nat} {a : Option Addr} {xs : List Int} {n : Nat} {d : Int} {A : World} (h : VisW Bn Bd Bl b off cap a xs n d A) (k : Nat) : VisW Bn Bd Bl b off cap a xs n d (A.drewN k) := ⟨h.n, h.d, h.l, ⟨h.i.addr, h.i.lt, h.i.cell⟩⟩

theorem grownBy_drew (W : World) (row : Option Nat) : W.grownBy W.drew row := ⟨rfl, rfl, rfl, Nat.le_refl _, fun _ _ _ => rfl⟩
theorem VisW.drew {Bn Bd Bl b off cap : Nat} {a : Option Addr} {xs : List Int} {n : Nat} {d : Int} {A : World} (h : VisW Bn Bd Bl b off cap a xs n d A) : VisW Bn Bd Bl b off cap a xs n d A.drew := ⟨h.n, h.d, h.l, ⟨h.i.addr, h.i.lt, h.i.cell⟩⟩

theorem visits1 (m : Nat) (hm : 1 ≤ m) (xs : List Int) (from0 : Nat) (dir : Int) (n : Nat) (a : Option Addr) (b off cap Bf Bn Bd Bl hi : Nat) (X : Nat → Prop) (w : World) (hlen : xs.length ≤ 1000000) (hn : n ≤ 1000000) (ok : StateOk xs (from0, dir))
    (hf : Boxed w Bf 3 (.int .i64 (from0 : Int))) (hv : VisW Bn Bd Bl b off cap a xs n dir w) (h1 : Bn < hi ∧ ¬ X Bn) (h2 : Bd < hi ∧ ¬ X Bd) (h3 : Bl < hi ∧ ¬ X Bl) (h4 : b < hi ∧ ¬ X b) (e1 : Bn ≠ Bd) (e2 : Bl ≠ Bd) (e3 : b ≠ Bd) (hhi : hi ≤ w.heap.size) (hBf : Bf < w.heap.size) :
    SeqRuns Fence.wide m Try.prog 57 #[.pointer (some ⟨Bf, 0, none⟩), .pointer (some ⟨Bn, 0, none⟩), .pointer (some ⟨Bd, 0, none⟩), .pointer (some ⟨Bl, 0, none⟩)] (fun x : Int => #[Value.int .i64 x]) (some Bd) (KeepsBut X hi) (visL xs (from0, dir) n) w := by
  intro l J W hW hJ hY h0
  have hne : xs ≠ [] := by have := ok.1; intro e; subst e; simp at this
  have hf' := (hW.cell (p := ⟨Bf, 0, none⟩) hBf).trans hf.cell
  have hvW : VisW Bn Bd Bl b off cap a xs n dir W := hv.keeps (X := X) (hi := hi) (fun j hj _ => hW.block j (by omega)) hne h1 h2 h3 h4
  obtain ⟨fn, tmps, assign, body, hy, hR⟩ := hY [] (from0 : Int) W h0 (visL_prefix xs (from0, dir) (Nat.zero_le n))
  refine callsIn_of_wp Try.func57 rfl trivial ?_ rfl
  simp only [Try.ntmps57, List.size_toArray, List.length_cons, List.length_nil, Nat.reduceAdd, Nat.reduceSub, Array.replicate_succ, Array.replicate_zero, List.push_toArray, List.append_toArray, List.nil_append, List.cons_append]
  gi_wp2
  refine hR.mono ?_
  rintro e W3 ⟨rfl, hJ3, hk3⟩
  have hv3 := hvW.keeps hk3 hne h1 h2 h3 h4
  have cn := hv3.n.cell
  gi_wp2
  gi_loopw [6, 14] (fun p i wr => ∃ j : Nat, j ≤ n ∧ i = .int .i64 j ∧ p = .int .i64 (visAt xs (from0, dir) j).1 ∧ J (visL xs (from0, dir) j) wr ∧ VisW Bn Bd Bl b off cap a xs n (visAt xs (from0, dir) j).2 wr) (fun _ i _ => n - (intOf i).toNat)
  case atStart => exact ⟨0, Nat.zero_le _, rfl, rfl, hJ3, hv3⟩
  case round =>
    obtain ⟨j, hj, rfl, rfl, hJr, hvr⟩ := hrel
    by_cases hlt : j < n
    · have hok := visAt_ok ok j
      have hnx : Hid (visAt xs (from0, dir) (j + 1) = visStep xs (visAt xs (from0, dir) j)) := rfl
      have hY2 := fun A hA => hY (visL xs (from0, dir) j) ((visAt xs (from0, dir) (j + 1)).1 : Int) A hA (by rw [← visL_next]; exact visL_prefix xs _ hlt)
      simp only [← visL_next] at hY2
      generalize hs' : visAt xs (from0, dir) (j + 1) = s' at *
      have HS := Lib.hid hs'
      clear hs'
      generalize visAt xs (from0, dir) j = s at *
      obtain ⟨p, d⟩ := s
      obtain ⟨q, d'⟩ := s'
      obtain ⟨hp, hd⟩ := hok
      dsimp only at hp hd hvr hY2 ⊢
      have cd := hvr.d.cell
      have fd := hvr.d.frozen
      have cl := hvr.l.cell
      have hdb : -1 ≤ d ∧ d ≤ 1 := by omega
      by_cases hlo : (p : Int) + d < 0
      · have hst := hnx.out
        rw [visStep, if_pos (.inl hlo)] at hst
        obtain ⟨rfl, rfl⟩ := Prod.mk.inj hst
        obtain ⟨fn, tmps, assign, body, hy, hR⟩ := hY2 (wr.setCell ⟨Bd, 0, none⟩ (.int .i64 (-d))) (hJ _ _ _ hJr (grownBy_setCell' _ _ _))
        have hvs := hvr.store (-d) e1 e2 e3
        have Hd := Lib.hid hd
        clear hd hst hY2
        gi_wp2
        refine hR.mono ?_
        rintro e W4 ⟨rfl, hJ4, hk4⟩
        gi_wp2
        go_roundw
        case rel => exact ⟨j + 1, by omega, by go_num, by rw [HS.out], hJ4, by rw [HS.out]; exact hvs.keeps hk4 hne h1 h2 h3 h4⟩
        case measure => simp [intOf]; omega
      · by_cases hge : (xs.length : Int) ≤ (p : Int) + d
        · have hst := hnx.out
          rw [visStep, if_pos (.inr hge)] at hst
          obtain ⟨rfl, rfl⟩ := Prod.mk.inj hst
          obtain ⟨fn, tmps, assign, body, hy, hR⟩ := hY2 (wr.setCell ⟨Bd, 0, none⟩ (.int .i64 (-d))) (hJ _ _ _ hJr (grownBy_setCell' _ _ _))
          have hvs := hvr.store (-d) e1 e2 e3
          have Hd := Lib.hid hd
          clear hd hst hY2
          gi_wp2
          refine hR.mono ?_
          rintro e W4 ⟨rfl, hJ4, hk4⟩
          gi_wp2
          go_roundw
          case rel => exact ⟨j + 1, by omega, by go_num, by rw [HS.out], hJ4, by rw [HS.out]; exact hvs.keeps hk4 hne h1 h2 h3 h4⟩
          case measure => simp [intOf]; omega
        · obtain ⟨z, hz⟩ := Int.eq_ofNat_of_zero_le (show 0 ≤ (p : Int) + d by omega)
          have hzl : z < xs.length := by omega
          have cz := hvr.i.cell z hzl
          have cp := hvr.i.cell p hp
          have iz := fun W => IntsAt.idx Try.underlying26 szInt hvr.i cap z W hzl
          have ip := fun W => IntsAt.idx Try.underlying26 szInt hvr.i cap p W hp
          rw [← hz] at iz
          have hst := hnx.out
          rw [visStep, if_neg (by dsimp only; omega)] at hst
          dsimp only at hst
          rw [hz, Int.toNat_natCast] at hst
          have Hst := Lib.hid hst
          have Hz := Lib.hid hz
          clear hst hnx
          generalize xs.getD z 0 = vz at *
          generalize xs.getD p 0 = vp at *
          have Hd := Lib.hid hd
          clear hd hz
          have hdrew := hJ _ _ _ hJr (grownBy_drew wr (some Bd))
          have hvd := hvr.drew
          have cd2 := hvd.d.cell
          have fd2 := hvd.d.frozen
          by_cases hfall : vz < vp
          · rw [if_pos (by have := hfall; omega)] at Hst
            obtain ⟨fn, tmps, assign, body, hy, hR⟩ := hY2 (wr.setCell ⟨Bd, 0, none⟩ (.int .i64 (-d))).drew (hJ _ _ _ (hJ _ _ _ hJr (grownBy_setCell' _ _ _)) (grownBy_drew _ _))
            have hvs := (hvr.store (-d) e1 e2 e3).drew
            obtain ⟨rfl, rfl⟩ := Prod.mk.inj Hst.out
            rw [← Hz.out] at hy
            clear hY2
            gi_wp2
            gi_region
            gi_wp2
            refine hR.mono ?_
            rintro e W4 ⟨rfl, hJ4, hk4⟩
            gi_wp2
            go_roundw
            case rel => exact ⟨j + 1, by omega, by go_num, by rw [HS.out]; dsimp only; rw [Hz.out], hJ4, by rw [HS.out]; exact hvs.keeps hk4 hne h1 h2 h3 h4⟩
            case measure => simp [intOf]; omega
          · rw [if_neg (by have := hfall; omega)] at Hst
            obtain ⟨fn, tmps, assign, body, hy, hR⟩ := hY2 wr.drew hdrew
            obtain ⟨rfl, rfl⟩ := Prod.mk.inj Hst.out
            rw [← Hz.out] at hy
            clear hY2
            gi_wp2
            gi_region
            gi_wp2
            refine hR.mono ?_
            rintro e W4 ⟨rfl, hJ4, hk4⟩
            gi_wp2
            go_roundw
            case rel => exact ⟨j + 1, by omega, by go_num, by rw [HS.out]; dsimp only; rw [Hz.out], hJ4, by rw [HS.out]; exact hvd.keeps hk4 hne h1 h2 h3 h4⟩
            case measure => simp [intOf]; omega
    · obtain rfl : j = n := by omega
      gi_wp2
      go_end0
      exact ⟨⟨_, rfl⟩, hJr⟩
end Go.Proofs.Ytencdgmcpnbfcaa
