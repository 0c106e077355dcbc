/- Plain helpers for the walks: worlds that extend one another, slices that are read, no program in sight. -/
import Derived.Test.YtencdgmcpnbfcaaPlain
import Derived.WalkKit
import Derived.WalkSpells
import Derived.WalkLawsBesides
import Derived.WalkSmall
import Derived.Lib.Hide
import Derived.Deep.Draws
import Derived.BigQuiet
import Derived.Deep.RegionHeld3
import Derived.Maps.AppendAt
namespace Go.Proofs.Ytencdgmcpnbfcaa
open Go.RowKit

/-- w' is w with new blocks: what was there is as it was. -/
def Ext (w w' : World) : Prop := Below w.heap.size w w'
theorem Ext.refl (w : World) : Ext w w := Below.refl _ _
theorem Ext.trans {a b c : World} (h : Ext a b) (k : Ext b c) : Ext a c := Below.trans h (Below.mono k h.size)
theorem Ext.size {w w' : World} (h : Ext w w') : w.heap.size ≤ w'.heap.size := Below.size h
theorem Ext.alloc {a w : World} (h : Ext a w) (o : Obj) : Ext a (w.alloc o) := Below.alloc h h.size o
theorem Ext.drew {a w : World} (h : Ext a w) : Ext a w.drew := Below.drew h
theorem Ext.drewN {a w : World} (h : Ext a w) (n : Nat) : Ext a (w.drewN n) := by
  have k : Below a.heap.size a w := h
  exact ⟨k.os, k.tape, k.output, k.size, k.block⟩
theorem Ext.setCell {a w : World} (h : Ext a w) {p : Addr} (hp : a.heap.size ≤ p.block) (u : Value) : Ext a (w.setCell p u) := Below.setCell h hp u
theorem Ext.cell {w w' : World} (h : Ext w w') {p : Addr} (hp : p.block < w.heap.size) : w'.cell? p = w.cell? p := Below.cell h hp
theorem Ext.frozen {w w' : World} (h : Ext w w') {p : Addr} (hp : p.block < w.heap.size) : w'.frozen? p = w.frozen? p := Below.frozen h hp
theorem Ext.below {w w' : World} (h : Ext w w') : Below w.heap.size w w' := h
theorem Ext.of {w w' : World} (h : Below w.heap.size w w') : Ext w w' := h

theorem keep_ext {w w' : World} {b o : Nat} {v : Value} (h : Ext w w') (hb : b < w.heap.size) (hc : w.cell? ⟨b, o, none⟩ = some v) : w'.cell? ⟨b, o, none⟩ = some v := by
  rw [h.cell (p := ⟨b, o, none⟩) hb]; exact hc

/-- It returns some integer, some bool, with a property. -/
def SomeInt (p : Int → Prop) (e : Ending) : Prop := ∃ n, e = .returned (.int .i64 n) ∧ p n
def SomeBool (p : Bool → Prop) (e : Ending) : Prop := ∃ b, e = .returned (.bool b) ∧ p b
theorem someInt {p : Int → Prop} {n : Int} (h : p n) : SomeInt p (.returned (.int .i64 n)) := ⟨n, rfl, h⟩
theorem someBool {p : Bool → Prop} {n : Bool} (h : p n) : SomeBool p (.returned (.bool n)) := ⟨n, rfl, h⟩
theorem ret_int {k : IntKind} {a b : Int} (h : a = b) : Ending.returned (.int k a) = .returned (.int k b) := by rw [h]
theorem ret_bool {a b : Bool} (h : a = b) : Ending.returned (.bool a) = .returned (.bool b) := by rw [h]

/-- The slice whose array begins at b, off (if it has an element) reads as these integers. -/
structure IntsAt (w : World) (a : Option Addr) (b off : Nat) (xs : List Int) : Prop where
  addr : xs ≠ [] → a = some ⟨b, off, none⟩
  lt : xs ≠ [] → b < w.heap.size
  cell : ∀ i, i < xs.length → w.cell? ⟨b, off + i, none⟩ = some (.int .i64 (xs.getD i 0))

theorem IntsAt.mono {w w' : World} {a : Option Addr} {b off : Nat} {xs : List Int} (h : IntsAt w a b off xs) (e : Ext w w') : IntsAt w' a b off xs :=
  ⟨h.addr, fun hx => Nat.lt_of_lt_of_le (h.lt hx) e.size, fun i hi => by
    rw [e.cell (p := ⟨b, off + i, none⟩) (h.lt (by rintro rfl; simp at hi))]; exact h.cell i hi⟩

theorem IntsAt.setCell {w : World} {a : Option Addr} {b off : Nat} {xs : List Int} (h : IntsAt w a b off xs) {p : Addr} (hne : p.block ≠ b) (v : Value) : IntsAt (w.setCell p v) a b off xs :=
  ⟨h.addr, fun hx => by simpa [World.setCell] using h.lt hx, fun i hi => by rw [World.cell?_setCell_other _ _ _ _ (fun e => hne (congrArg Addr.block e))]; exact h.cell i hi⟩

/-- The address of an element, whatever the slice's own address is spelt as. -/
theorem idx_run {P : Program} {T E : TypeId} {sz : Nat} (hT : P.underlying T = some (.slice E)) (hE : ∀ W : World, (sizeOf E).run P W = .ok sz W)
    {a : Option Addr} {b off n : Nat} (ha : n ≠ 0 → a = some ⟨b, off, none⟩) (cap : Nat) (k : Nat) (W : World) (hk : k < n) :
    (Instr.indexAt T (.slice a n cap) (.int .i64 (k : Int))).run P W = .ok (.pointer (some ⟨b, off + k * sz, none⟩)) W := by
  rw [ha (by omega)]
  have hel : P.elem T = E := by simp [Program.elem, hT]
  rw [run_indexAt_slice W T _ n cap .i64 k (by rw [hel]; exact hT)]
  rw [if_pos (by omega), hel, hE]
  simp [Result.andThen, Addr.add]

theorem IntsAt.idx {P : Program} {T E : TypeId} (hT : P.underlying T = some (.slice E)) (hE : ∀ W : World, (sizeOf E).run P W = .ok 1 W)
    {w : World} {a : Option Addr} {b off : Nat} {xs : List Int} (h : IntsAt w a b off xs) (cap : Nat) (k : Nat) (W : World) (hk : k < xs.length) :
    (Instr.indexAt T (.slice a xs.length cap) (.int .i64 (k : Int))).run P W = .ok (.pointer (some ⟨b, off + k, none⟩)) W := by
  have := idx_run hT hE (n := xs.length) (fun hn => h.addr (by rintro rfl; exact hn rfl)) cap k W hk
  rwa [Nat.mul_one] at this

/-- The slice reads as these pairs, two cells each. -/
structure PtsAt (w : World) (a : Option Addr) (b off : Nat) (ps : List (Int × Int)) : Prop where
  addr : ps ≠ [] → a = some ⟨b, off, none⟩
  lt : ps ≠ [] → b < w.heap.size
  cellX : ∀ i, i < ps.length → w.cell? ⟨b, off + i * 2, none⟩ = some (.int .i64 (ps.getD i (0, 0)).1)
  cellY : ∀ i, i < ps.length → w.cell? ⟨b, off + i * 2 + 1, none⟩ = some (.int .i64 (ps.getD i (0, 0)).2)
theorem PtsAt.mono {w w' : World} {a : Option Addr} {b off : Nat} {xs : List (Int × Int)} (h : PtsAt w a b off xs) (e : Ext w w') : PtsAt w' a b off xs :=
  ⟨h.addr, fun hx => Nat.lt_of_lt_of_le (h.lt hx) e.size, fun i hi => by
    rw [e.cell (p := ⟨b, off + i * 2, none⟩) (h.lt (by rintro rfl; simp at hi))]; exact h.cellX i hi, fun i hi => by
    rw [e.cell (p := ⟨b, off + i * 2 + 1, none⟩) (h.lt (by rintro rfl; simp at hi))]; exact h.cellY i hi⟩
theorem PtsAt.idx {P : Program} {T E : TypeId} (hT : P.underlying T = some (.slice E)) (hE : ∀ W : World, (sizeOf E).run P W = .ok 2 W)
    {w : World} {a : Option Addr} {b off : Nat} {xs : List (Int × Int)} (h : PtsAt w a b off xs) (cap : Nat) (k : Nat) (W : World) (hk : k < xs.length) :
    (Instr.indexAt T (.slice a xs.length cap) (.int .i64 (k : Int))).run P W = .ok (.pointer (some ⟨b, off + k * 2, none⟩)) W :=
  idx_run hT hE (n := xs.length) (fun hn => h.addr (by rintro rfl; exact hn rfl)) cap k W hk

/-- A fresh block of integers, built by a literal. -/
theorem IntsAt.new (w : World) (xs : List Int) (cs : List Value) (T : TypeId) (h : cs = xs.map (Value.int .i64)) : IntsAt (w.alloc (.cells cs.toArray T)) (some ⟨w.heap.size, 0, none⟩) w.heap.size 0 xs :=
  ⟨fun _ => rfl, fun _ => by simp, fun i hi => by
    rw [World.cell?_alloc_at _ _ _ _ rfl]
    subst h
    simp [List.getD_eq_getElem?_getD, hi]⟩

theorem wrap_id (x : Int) (h1 : -1000000000000000000 ≤ x) (h2 : x ≤ 1000000000000000000) : IntKind.i64.wrap x = x := by
  rw [IntKind.wrap_i64]; omega
theorem wrap_id' (x : Int) (h1 : -1000000000000000000 ≤ x) (h2 : x ≤ 1000000000000000000) : wrap64 x = x := by
  unfold wrap64; omega

end Go.Proofs.Ytencdgmcpnbfcaa
