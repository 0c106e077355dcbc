/- curve: the highest power. -/
import Derived.Test.YtencdgmcpnbfcaaPeakB
namespace Go.Proofs.Ytencdgmcpnbfcaa
open Go.RowKit Go.Shelf
set_option maxHeartbeats 2000000
set_option maxRecDepth 100000
attribute [local go_sem] Oper.semAt_some

def hiStep (o p : PPeak) : PPeak := if cmpPeak p o < 0 then p else o
def hiL (ps : List PPeak) : PPeak := ps.foldl hiStep (0, 0)
theorem hiL_snoc (ps : List PPeak) (p : PPeak) : hiL (ps ++ [p]) = hiStep (hiL ps) p := by simp [hiL]

/-- A block of two cells. -/
def Box2 (W : World) (B : Nat) (t : TypeId) (u v : Value) : Prop := W.heap[B]? = some (.cells #[u, v] t (0, 0))
theorem Box2.lt {W : World} {B : Nat} {t : TypeId} {u v : Value} (h : Box2 W B t u v) : B < W.heap.size := (Array.getElem?_eq_some_iff.1 h).1
theorem Box2.c0 {W : World} {B : Nat} {t : TypeId} {u v : Value} (h : Box2 W B t u v) : W.cell? ⟨B, 0, none⟩ = some u := by simp [World.cell?, show W.heap[B]? = _ from h]
theorem Box2.c1 {W : World} {B : Nat} {t : TypeId} {u v : Value} (h : Box2 W B t u v) : W.cell? ⟨B, 1, none⟩ = some v := by simp [World.cell?, show W.heap[B]? = _ from h]
theorem Box2.f0 {W : World} {B : Nat} {t : TypeId} {u v : Value} (h : Box2 W B t u v) : W.frozen? ⟨B, 0, none⟩ = false := by simp [World.frozen?, show W.heap[B]? = _ from h]
theorem Box2.f1 {W : World} {B : Nat} {t : TypeId} {u v : Value} (h : Box2 W B t u v) : W.frozen? ⟨B, 1, none⟩ = false := by simp [World.frozen?, show W.heap[B]? = _ from h]
theorem Box2.new (W : World) (t : TypeId) (u v : Value) : Box2 (W.alloc (.cells #[u, v] t)) W.heap.size t u v := World.alloc_heap_new W _
theorem Box2.kept {W W' : World} {row : Option Nat} {B : Nat} {t : TypeId} {u v : Value} (h : Box2 W B t u v) (hg : W.grownBy W' row) (hne : some B ≠ row) : Box2 W' B t u v := (hg.block B h.lt hne).trans h
theorem Box2.alloc {W : World} {B : Nat} {t : TypeId} {u v : Value} (h : Box2 W B t u v) (o : Obj) : Box2 (W.alloc o) B t u v := h.kept (World.grownBy_alloc W o none) (by simp)
theorem grownBy_setAt (W : World) (b o : Nat) (v : Value) : W.grownBy (W.setCell ⟨b, o, none⟩ v) (some b) :=
  ⟨rfl, rfl, rfl, (KeepsWalks.setCell W _ v).size, fun k _ hk => Below.heap_setCell _ _ _ k (fun e => hk (by rw [e]))⟩
theorem Box2.set0 {W : World} {B : Nat} {t : TypeId} {u v : Value} (u' : Value) (h : Box2 W B t u v) : Box2 (W.setCell ⟨B, 0, none⟩ u') B t u' v := by
  obtain ⟨hlt, hk⟩ := Array.getElem?_eq_some_iff.1 h
  show (W.heap.modify B _)[B]? = _
  rw [Array.getElem?_eq_getElem (by rw [Array.size_modify]; exact hlt), Array.getElem_modify_self, hk]
  rfl
theorem Box2.set1 {W : World} {B : Nat} {t : TypeId} {u v : Value} (v' : Value) (h : Box2 W B t u v) : Box2 (W.setCell ⟨B, 1, none⟩ v') B t u v' := by
  obtain ⟨hlt, hk⟩ := Array.getElem?_eq_some_iff.1 h
  show (W.heap.modify B _)[B]? = _
  rw [Array.getElem?_eq_getElem (by rw [Array.size_modify]; exact hlt), Array.getElem_modify_self, hk]
  rfl

theorem Box2.ext {W W' : World} {B : Nat} {t : TypeId} {u v : Value} (h : Box2 W B t u v) (x : Ext W W') : Box2 W' B t u v := (Below.block x B h.lt).trans h
theorem boxed_ext {W W' : World} {B : Nat} {t : TypeId} {v : Value} (h : Boxed W B t v) (x : Ext W W') : Boxed W' B t v := (Below.block x B h.lt).trans h
theorem Ext.keepsOthers {W W' : World} (x : Ext W W') : KeepsOthers W W' := ⟨x.size, fun k o hk _ => (Below.block x k (Array.getElem?_eq_some_iff.1 hk).1).trans hk⟩
theorem Ext.keepsBut {W W' : World} (x : Ext W W') (X : Nat → Prop) {hi : Nat} (h : hi ≤ W.heap.size) : KeepsBut X hi W W' := fun j hj _ => Below.block x j (by omega)
theorem run_store_fn {P : Program} {w : World} {a : Addr} {m : Mode} (fn : Fn) (first captured : Array Value) : (store a (.func fn first captured) m).run P w = stored P w a (.func fn first captured) m := run_store P w a _ m rfl
attribute [local go_sem] run_store_fn

theorem highest_curve (xs : List Int) (a : Option Addr) (b off cap : Nat) (w : World) (hlen : xs.length ≤ 10000) (hv : ∀ i, i < xs.length → 0 ≤ xs.getD i 0 ∧ xs.getD i 0 ≤ 100000) (hne : xs ≠ []) (H : IntsAt w a b off xs) :
    Calls Try.prog 23 #[.slice a xs.length cap] w fun r w' => r = .returned (.agg #[.int .i64 (hiL (powersL xs xs.length)).1, .int .i64 (hiL (powersL xs xs.length)).2]) ∧ Ext w w' := by
  refine (callsIn_wide (n := 6)).1 ?_
  refine callsIn_of_wp_marks Try.func23 rfl trivial ?_ rfl
  simp only [Try.ntmps23, List.size_toArray, List.length_cons, List.length_nil, Nat.reduceAdd, Nat.reduceSub, Array.replicate_succ, Array.replicate_zero, List.push_toArray, List.append_toArray, List.nil_append, List.cons_append]
  have b1 := Boxed.new (w.alloc (.cells #[.int .i64 0, .int .i64 0] 63)) 88 .nilFunc
  rw [World.size_alloc] at b1
  have q1 := b1.cell
  have q2 := b1.frozen
  gi_wp2_with (refine ⟨trivial, ?_⟩; gi_at_call 29; refine (callsIn_wide.2 (powers_curve _ _ _ _)).mono ?_; rintro e w3 ⟨rfl, rfl⟩)
  clear b1 q1 q2
  generalize hW5 : (((w.alloc (.cells #[.int .i64 0, .int .i64 0] 63)).alloc (.cells #[.func (.func 45) #[] #[]] 88)).alloc (.cells #[.int .i64 0, .int .i64 0] 63)).alloc (.cells #[.slice a xs.length cap] 26) = W5
  have hs5 : W5.heap.size = w.heap.size + 4 := by rw [← hW5]; simp
  have hx5 : Ext w W5 := by rw [← hW5]; exact ((((Ext.refl _).alloc _).alloc _).alloc _).alloc _
  have bR : Box2 W5 w.heap.size 63 (.int .i64 0) (.int .i64 0) := by rw [← hW5]; exact (((Box2.new _ _ _ _).alloc _).alloc _).alloc _
  have bB : Boxed W5 (w.heap.size + 1) 88 (.func (.func 45) #[] #[]) := by
    rw [← hW5]; have := ((Boxed.new (w.alloc (.cells #[.int .i64 0, .int .i64 0] 63)) 88 (.func (.func 45) #[] #[])).alloc (.cells #[.int .i64 0, .int .i64 0] 63)).alloc (.cells #[.slice a xs.length cap] 26); simpa using this
  have bO : Box2 W5 (w.heap.size + 2) 63 (.int .i64 0) (.int .i64 0) := by
    rw [← hW5]; have := (Box2.new ((w.alloc (.cells #[.int .i64 0, .int .i64 0] 63)).alloc (.cells #[.func (.func 45) #[] #[]] 88)) 63 (.int .i64 0) (.int .i64 0)).alloc (.cells #[.slice a xs.length cap] 26); simpa using this
  have bL : Boxed W5 (w.heap.size + 3) 26 (.slice a xs.length cap) := by
    rw [← hW5]; have := Boxed.new (((w.alloc (.cells #[.int .i64 0, .int .i64 0] 63)).alloc (.cells #[.func (.func 45) #[] #[]] 88)).alloc (.cells #[.int .i64 0, .int .i64 0] 63)) 26 (.slice a xs.length cap); simpa using this
  clear hW5
  have hb2 : b < w.heap.size := H.lt hne
  simp only [Nat.add_assoc, Nat.reduceAdd]
  refine wpIn_rangeFunc_runsH rfl (by decide) (gf := 52) (lb := #[.pointer (some ⟨w.heap.size + 3, 0, none⟩)]) rfl trivial (enters_of Try.func52 (by kernel_rfl) rfl)
    (powers1 5 (by decide) xs a b off cap (w.heap.size + 3) W5.heap.size (fun j => j = w.heap.size + 2) W5 hlen hv hne bL (H.mono hx5) (by omega) (Nat.le_refl _))
    KeepsBut.trans (fun W l o h => KeepsBut.putObj _ _ _ _ _ h) (fun r e => by cases e) (Below.refl _ _) (fun _ => rfl)
    (fun (pre : List PPeak) W => (Box2 W (w.heap.size + 2) 63 (.int .i64 (hiL pre).1) (.int .i64 (hiL pre).2) ∧ Boxed W (w.heap.size + 1) 88 (.func (.func 45) #[] #[]) ∧ Box2 W w.heap.size 63 (.int .i64 0) (.int .i64 0)) ∧ (Below w.heap.size w W ∧ W5.heap.size ≤ W.heap.size))
    (OwnFrom.and (Own.from (fun s A B row hs hg hr => ⟨hs.1.kept hg (fun e => by obtain ⟨o, ho, hc⟩ := hr _ e.symm; rw [show A.heap[_]? = _ from hs.1] at ho; cases ho; cases hc), hs.2.1.kept hg (fun e => by obtain ⟨o, ho, hc⟩ := hr _ e.symm; rw [show A.heap[_]? = _ from hs.2.1] at ho; cases ho; cases hc), hs.2.2.kept hg (fun e => by obtain ⟨o, ho, hc⟩ := hr _ e.symm; rw [show A.heap[_]? = _ from hs.2.2] at ho; cases ho; cases hc)⟩) _) (OwnFrom.and (ownFrom_below (Nat.le_refl _) (by omega)) (fun s A B row hs hg hr => Nat.le_trans hs hg.size)))
    (fun s A B hs hg => ⟨⟨hs.1.1.kept hg (by simp), hs.1.2.1.kept hg (by simp), hs.1.2.2.kept hg (by simp)⟩, hs.2.1.grown hg hs.2.1.size (fun k e => by cases e), Nat.le_trans hs.2.2 hg.size⟩)
    ⟨⟨bO, bB, bR⟩, hx5, Nat.le_refl _⟩
    (fun x a' W => ∃ Bx, W5.heap.size ≤ Bx ∧ Box2 W Bx 63 (.int .i64 x.1) (.int .i64 x.2) ∧ a' = { tmps := #[.slice a xs.length cap, undef, .pointer (some ⟨w.heap.size, 0, none⟩), .pointer (some ⟨w.heap.size + 1, 0, none⟩), .pointer (some ⟨w.heap.size + 2, 0, none⟩), .pointer (some ⟨Bx, 0, none⟩), .slice a xs.length cap, .func (.func 52) #[] #[.pointer (some ⟨w.heap.size + 3, 0, none⟩)], .agg #[.int .i64 x.1, .int .i64 x.2], undef, undef, undef, undef, undef, undef, undef], defers := [] })
    ?hax ?assign ?body ?done
  case hax =>
    rintro x a' s A B row ⟨Bx, h1, h2, h3⟩ hg hr
    exact ⟨Bx, h1, h2.kept hg (fun e => by obtain ⟨_, o, ho, hc⟩ := hr _ e.symm; rw [show A.heap[_]? = _ from h2] at ho; cases ho; cases hc), h3⟩
  case assign =>
    rintro l pre x W K ⟨⟨k1, k2, k3⟩, k4, k5⟩ hK
    gi_wp2
    refine hK _ _ (KeepsOthers.alloc _ _) (KeepsBut.grown (World.grownBy_alloc W _ none) k5 (fun r e => by cases e)) ⟨⟨k1.alloc _, k2.alloc _, k3.alloc _⟩, Below.alloc k4 k4.size _, Nat.le_trans k5 (by simp)⟩ ⟨W.heap.size, k5, Box2.new _ _ _ _, rfl⟩
  case body =>
    rintro l pre x a' W ⟨⟨k1, k2, k3⟩, k4, k5⟩ ⟨Bx, h1, h2, rfl⟩ hpre
    obtain ⟨x1, x2⟩ := x
    have hsn := Lib.hid (hiL_snoc pre (x1, x2))
    generalize hiL pre = o at *
    obtain ⟨o1, o2⟩ := o
    dsimp only at *
    have c1 := k1.c0
    have c2 := k1.c1
    have c3 := k2.cell
    have c4 := h2.c0
    have c5 := h2.c1
    by_cases hlt : cmpPeak (x1, x2) (o1, o2) < 0
    · have hhi : hiL (pre ++ [(x1, x2)]) = (x1, x2) := by rw [hsn.out, hiStep, if_pos hlt]
      have Hhi := Lib.hid hhi
      clear hhi
      gi_wp2_with (refine ⟨trivial, ?_⟩; gi_at_call 45; refine (CallsIn.inRound l (callsIn_wide.2 (compare_curve _ _ _ _ _))).mono ?_; rintro e w2 ⟨rfl, hx2⟩; have d1 := (k1.ext hx2).c0; have d2 := (k1.ext hx2).c1; have d3 := (k1.ext hx2).f0; have d4 := (k1.ext hx2).f1; have d5 := (h2.ext hx2).c0; have d6 := (h2.ext hx2).c1)
      have hb4 : Below w.heap.size w w2 := Below.trans k4 (Below.mono hx2 k4.size)
      have hs4 := hx2.size
      refine ⟨(hx2.keepsOthers.trans (KeepsOthers.setCell _ _ _)).trans (KeepsOthers.setCell _ _ _), ((hx2.keepsBut _ k5).trans (KeepsBut.grown (grownBy_setAt _ _ _ _) (by omega) (fun r e => .inr (by cases e; rfl)))).trans (KeepsBut.grown (grownBy_setAt _ _ _ _) (Nat.le_trans (by omega) (grownBy_setAt w2 (w.heap.size + 2) 0 (.int .i64 x1)).size) (fun r e => .inr (by cases e; rfl))), ⟨?_, ?_, ?_⟩, (hb4.setCell (p := ⟨w.heap.size + 2, 0, none⟩) (by simp) _).setCell (p := ⟨w.heap.size + 2, 1, none⟩) (by simp) _, Nat.le_trans (Nat.le_trans (by omega) (grownBy_setAt w2 (w.heap.size + 2) 0 (.int .i64 x1)).size) (grownBy_setAt _ (w.heap.size + 2) 1 (.int .i64 x2)).size⟩
      · rw [Hhi.out]; exact ((k1.ext hx2).set0 _).set1 _
      · exact ((boxed_ext k2 hx2).kept (grownBy_setAt _ _ _ _) (by simp)).kept (grownBy_setAt _ _ _ _) (by simp)
      · exact ((k3.ext hx2).kept (grownBy_setAt _ _ _ _) (by simp)).kept (grownBy_setAt _ _ _ _) (by simp)
    · have hhi : hiL (pre ++ [(x1, x2)]) = (o1, o2) := by rw [hsn.out, hiStep, if_neg hlt]
      have Hhi := Lib.hid hhi
      clear hhi
      gi_wp2_with (refine ⟨trivial, ?_⟩; gi_at_call 45; refine (CallsIn.inRound l (callsIn_wide.2 (compare_curve _ _ _ _ _))).mono ?_; rintro e w2 ⟨rfl, hx2⟩; have d1 := (k1.ext hx2).c0; have d2 := (k1.ext hx2).c1; have d3 := (k1.ext hx2).f0; have d4 := (k1.ext hx2).f1; have d5 := (h2.ext hx2).c0; have d6 := (h2.ext hx2).c1)
      have hb4 : Below w.heap.size w w2 := Below.trans k4 (Below.mono hx2 k4.size)
      exact ⟨hx2.keepsOthers, hx2.keepsBut _ k5, ⟨by rw [Hhi.out]; exact k1.ext hx2, boxed_ext k2 hx2, k3.ext hx2⟩, hb4, Nat.le_trans k5 hx2.size⟩
  case done =>
    rintro D W hD ⟨⟨k1, k2, k3⟩, k4, k5⟩ hK
    have c1 := k1.c0
    have c2 := k1.c1
    have c3 := k3.c0
    have c4 := k3.c1
    have c5 := k3.f0
    have c6 := k3.f1
    gi_wp2
    generalize hiL (powersL xs xs.length) = o at *
    obtain ⟨o1, o2⟩ := o
    dsimp only at *
    have hK' := (KeepsOthers.setCell (W.setCell ⟨w.heap.size, 0, none⟩ (.int .i64 o1)) ⟨w.heap.size, 1, none⟩ (.int .i64 o2)).same D _ ((KeepsOthers.setCell W ⟨w.heap.size, 0, none⟩ (.int .i64 o1)).same D _ hK rfl) rfl
    refine ⟨by simp, .inl ⟨_, _, rfl, run_takeDeferred hK', ?_⟩⟩
    have k7 := ((k3.set0 (.int .i64 o1)).set1 (.int .i64 o2)).kept (grownBy_putObj' _ D (.deferred none)) (by simp; omega)
    have e1 := k7.c0
    have e2 := k7.c1
    refine ⟨.agg #[.int .i64 o1, .int .i64 o2], ?_, rfl, Ext.of (Below.trans ((k4.setCell (p := ⟨w.heap.size, 0, none⟩) (by simp) _).setCell (p := ⟨w.heap.size, 1, none⟩) (by simp) _) (belowK_b (w := W5) (by omega) _ D _ _ hD hK' rfl rfl))⟩
    simp [results, Try.f23, go_sem, e1, e2]
end Go.Proofs.Ytencdgmcpnbfcaa
