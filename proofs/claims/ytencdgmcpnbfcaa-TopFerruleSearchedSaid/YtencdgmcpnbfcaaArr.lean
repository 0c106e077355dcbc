/- Arrays of integers that the call has made (written in place), and maps of integers by integers. -/
import Derived.Test.YtencdgmcpnbfcaaOwn
import Derived.Maps.OwnOps
import Derived.Maps.Views
namespace Go.Proofs.Ytencdgmcpnbfcaa
open Go.RowKit Go.Maps

/-- Block g is an array of just these integers. -/
def Arr (w : World) (g : Nat) (T : TypeId) (xs : List Int) : Prop := w.heap[g]? = some (.cells (xs.map (Value.int .i64)).toArray T (0, 0))

theorem Arr.lt {w : World} {g : Nat} {T : TypeId} {xs : List Int} (h : Arr w g T xs) : g < w.heap.size := (Array.getElem?_eq_some_iff.1 h).1
theorem Arr.ext {w w' : World} {g : Nat} {T : TypeId} {xs : List Int} (h : Arr w g T xs) (x : Ext w w') : Arr w' g T xs := by
  unfold Arr; rw [Below.block x g h.lt]; exact h
theorem Arr.alloc {w : World} {g : Nat} {T : TypeId} {xs : List Int} (h : Arr w g T xs) (o : Obj) : Arr (w.alloc o) g T xs := h.ext ((Ext.refl w).alloc o)
theorem Arr.drew {w : World} {g : Nat} {T : TypeId} {xs : List Int} (h : Arr w g T xs) : Arr w.drew g T xs := h
theorem Arr.grown {w w' : World} {g : Nat} {T : TypeId} {xs : List Int} {row : Option Nat} (h : Arr w g T xs) (hg : w.grownBy w' row) (hne : some g ≠ row) : Arr w' g T xs := by
  unfold Arr; rw [hg.block g h.lt hne]; exact h
theorem Arr.cell {w : World} {g : Nat} {T : TypeId} {xs : List Int} (h : Arr w g T xs) (i : Nat) (hi : i < xs.length) : w.cell? ⟨g, i, none⟩ = some (.int .i64 (xs.getD i 0)) := by
  unfold Arr at h
  simp [World.cell?, h, List.getD_eq_getElem?_getD, hi]
theorem Arr.frozen {w : World} {g : Nat} {T : TypeId} {xs : List Int} (h : Arr w g T xs) (i : Nat) : w.frozen? ⟨g, i, none⟩ = false := by
  unfold Arr at h
  simp [World.frozen?, h]
theorem Arr.set {w : World} {g : Nat} {T : TypeId} {xs : List Int} (h : Arr w g T xs) (i : Nat) (v : Int) : Arr (w.setCell ⟨g, i, none⟩ (.int .i64 v)) g T (xs.set i v) := by
  unfold Arr at *
  simp [World.setCell, Array.getElem?_modify, h, List.map_set]
theorem Arr.set_other {w : World} {g g' : Nat} {T : TypeId} {xs : List Int} (h : Arr w g T xs) (hne : g' ≠ g) (o : Nat) (v : Value) : Arr (w.setCell ⟨g', o, none⟩ v) g T xs := by
  unfold Arr at *
  simp only [World.setCell, Array.getElem?_modify]
  rw [if_neg hne]; exact h
theorem Arr.ints {w : World} {g : Nat} {T : TypeId} {xs : List Int} (h : Arr w g T xs) : IntsAt w (some ⟨g, 0, none⟩) g 0 xs :=
  ⟨fun _ => rfl, fun _ => h.lt, fun i hi => by rw [Nat.zero_add]; exact h.cell i hi⟩

theorem madeInts (n : Nat) : madeCells (Value.int .i64 0).cells n = ((List.replicate n (0 : Int)).map (Value.int .i64)).toArray := by
  apply Array.ext
  · simp [madeCells]
  · intro i h1 h2
    simp [madeCells, Value.cells, Nat.mod_one]

/-- What 'make([]int, n)' lays. -/
def zeros (n : Nat) : Array Value := ((List.replicate n (0 : Int)).map (Value.int .i64)).toArray
/-- 'make([]int, n)'. -/
theorem make_ints {P : Program} (t e : TypeId) (ht : P.underlying t = some (.slice e)) (hinfo : (P.info? e).map (fun i => (i.zero, i.size, i.bytes)) = some (some (.int .i64 0), 1, 8)) (n : Nat) (hn : n ≤ 1000000000) (N : Int) (hN : N = (n : Int)) (w : World) :
    (Instr.makeSlice t (.int .i64 N) (.int .i64 N)).run P w = .ok (.slice (some ⟨w.heap.size, 0, none⟩) n n) (w.alloc (.cells (zeros n) e)) := by
  subst hN
  obtain ⟨i, hi, hz0, hz1, hz2⟩ := info_parts hinfo
  have h := run_make (P := P) w t e i (.int .i64 0) ht hi hz0 .i64 .i64 n n (by omega) (by omega) (by rw [hz2]; omega) (by omega)
  rw [Int.toNat_natCast, hz1, Nat.mul_one, madeInts] at h
  exact h
theorem Arr.zeros (w : World) (n : Nat) (T : TypeId) : Arr (w.alloc (.cells (zeros n) T)) w.heap.size T (List.replicate n 0) := by
  unfold Arr
  show (w.heap.push _)[w.heap.size]? = _
  simp [Go.Proofs.Ytencdgmcpnbfcaa.zeros]
theorem Arr.made {w : World} (xs : List Int) (T : TypeId) : Arr (w.alloc (.cells (xs.map (Value.int .i64)).toArray T)) w.heap.size T xs := by
  unfold Arr
  show (w.heap.push _)[w.heap.size]? = _
  simp

/-! ### maps of integers by integers -/
/-- Block m is a map of at most n entries; at key x it gives F x (0 where it holds nothing). -/
def MapI (P : Program) (k e : TypeId) (w : World) (m n : Nat) (F : Int → Int) : Prop :=
  ∃ D : DataW Unit, w.ownsMap P k (plainElem P e) m n D ∧ IsMap D ∧ ∀ x, (Lit.int .i64 x).wf = true → D.atKey (.int .i64 x) (.lit (.int .i64 0)) = .lit (.int .i64 (F x))

section
variable {P : Program} {k e : TypeId} {w : World} {m n : Nat} {F : Int → Int}
theorem MapI.made (P : Program) (k e : TypeId) (w : World) : MapI P k e (w.alloc (.map #[] 0)) w.heap.size 0 (fun _ => 0) :=
  ⟨_, World.ownsMap_made _ _ _ _, isMap_empty, fun _ _ => rfl⟩
theorem MapI.lt (h : MapI P k e w m n F) : m < w.heap.size := let ⟨_, h, _⟩ := h; h.lt
theorem MapI.ext {w' : World} (h : MapI P k e w m n F) (x : Ext w w') : MapI P k e w' m n F := by
  obtain ⟨D, h1, h2⟩ := h
  refine ⟨D, h1.kept (row := none) ⟨Below.os x, Below.tape x, Below.output x, Below.size x, fun i hi _ => Below.block x i hi⟩ (by simp), h2⟩
theorem MapI.setCell (h : MapI P k e w m n F) {a : Addr} (hne : a.block ≠ m) (v : Value) : MapI P k e (w.setCell a v) m n F := by
  obtain ⟨D, h1, h2⟩ := h
  exact ⟨D, h1.kept (row := some a.block) ⟨rfl, rfl, rfl, by simp [World.setCell], fun i hi hn => Below.heap_setCell _ _ _ _ (fun e => hn (by rw [e]))⟩ (fun e => hne (by injection e with e; exact e.symm)), h2⟩
theorem MapI.lookup {ops : Array Oper} {rest : List Oper} {o : Oper} {a : Act} {Q : Exit → Act → World → Prop} (h : MapI P k e w m n F) (hg : o.guard = none) (mm x : Operand) (t : TypeId) (hop : o.op = Op.lookup t mm x false)
    (ht : P.underlying t = some (.map k e)) (hk : P.underlying k = some (.int .i64)) (he : P.underlying e = some (.int .i64)) (hz : ∀ w : World, (zeroValue e).run P w = .ok (.int .i64 0) w)
    (hm : a.eval mm = .map (some m)) (key : Int) (hx : a.eval x = .int .i64 key) (hw : (Lit.int .i64 key).wf = true)
    (hK : (Lit.int .i64 (F key)).wf = true → wpList P ops Q rest (a.put o.dst (.int .i64 (F key))) w) : wpList P ops Q (o :: rest) a w := by
  obtain ⟨D, h1, h2, h3⟩ := h
  refine wpList_lookup_own_int w hg mm x t hop k e .i64 (int_keyed hk) ht he (hz w) m n D hm h1 _ _ hx (keyOf_int_mk hk hw) fun c hc hwc => ?_
  have : c = F key := by
    have h4 := h3 key hw
    rw [hc] at h4
    injection h4 with h4
    injection h4
  subst this
  exact hK hwc
theorem MapI.run (h : MapI P k e w m n F) (t : TypeId) (ht : P.underlying t = some (.map k e)) (hk : P.underlying k = some (.int .i64)) (he : P.underlying e = some (.int .i64)) (hz : ∀ w : World, (zeroValue e).run P w = .ok (.int .i64 0) w)
    (key : Int) (hw : (Lit.int .i64 key).wf = true) : (Instr.lookup t (.map (some m)) (.int .i64 key) false).run P w = .ok (.int .i64 (F key)) w := by
  obtain ⟨D, h1, h2, h3⟩ := h
  obtain ⟨c, hrun, hat, hwc⟩ := h1.lookup_int (int_keyed hk) ht he (hz w) (keyOf_int_mk hk hw)
  have : c = F key := by
    have h4 := h3 key hw
    rw [hat] at h4
    injection h4 with h4
    injection h4
  subst this
  exact hrun
theorem MapI.update {ops : Array Oper} {rest : List Oper} {o : Oper} {a : Act} {Q : Exit → Act → World → Prop} (h : MapI P k e w m n F) (hg : o.guard = none) (mm x v : Operand) (t : TypeId) (hop : o.op = Op.mapUpdate t mm x v)
    (ht : P.underlying t = some (.map k e)) (hk : P.underlying k = some (.int .i64)) (he : P.underlying e = some (.int .i64))
    (hm : a.eval mm = .map (some m)) (hn : n < maxLen) (key val : Int) (hx : a.eval x = .int .i64 key) (hv : a.eval v = .int .i64 val) (hw : (Lit.int .i64 key).wf = true) (hwv : (Lit.int .i64 val).wf = true)
    (hK : ∀ w', MapI P k e w' m (n + 1) (fun y => if y = key then val else F y) → w.grownBy w' (some m) → wpList P ops Q rest (a.put o.dst undef) w') : wpList P ops Q (o :: rest) a w := by
  obtain ⟨D, h1, h2, h3⟩ := h
  refine wpList_mapUpdate_own w hg mm x v t hop k e (int_keyed hk) ht _ m n D hm h1 hn _ _ _ hx hv (keyOf_int_mk hk hw) _ [] (plainElem_int he hwv) fun w' h4 h5 => hK w' ⟨_, h4, h2.put _ _, fun y hy => ?_⟩ h5
  simp only []
  by_cases hyk : y = key
  · subst hyk
    rw [atKey_put_same h2 (by simp [WideAt.IsKeyLit]), if_pos rfl]
  · rw [atKey_put_other (by simpa using hyk), if_neg hyk]
    exact h3 y hy
end
end Go.Proofs.Ytencdgmcpnbfcaa
