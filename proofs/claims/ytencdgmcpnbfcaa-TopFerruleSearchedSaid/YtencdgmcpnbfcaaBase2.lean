/- Cells, chains and fields, as they lie in memory. -/
import Derived.Test.YtencdgmcpnbfcaaOwn
namespace Go.Proofs.Ytencdgmcpnbfcaa
open Go.RowKit

structure CellsAt (w : World) (a : Option Addr) (b off : Nat) (cs : List PCell) : Prop where
  addr : cs ≠ [] → a = some ⟨b, off, none⟩
  lt : cs ≠ [] → b < w.heap.size
  cell : ∀ i, i < cs.length → ∃ ta tb toff tcap, PtsAt w ta tb toff (cs.getD i default).tab ∧ w.cell? ⟨b, off + i * 3, none⟩ = some (.slice ta (cs.getD i default).tab.length tcap) ∧
    w.cell? ⟨b, off + i * 3 + 1, none⟩ = some (.int .i64 (cs.getD i default).light) ∧ w.cell? ⟨b, off + i * 3 + 2, none⟩ = some (.int .i64 (cs.getD i default).drop)
theorem CellsAt.mono {w w' : World} {a : Option Addr} {b off : Nat} {xs : List PCell} (h : CellsAt w a b off xs) (e : Ext w w') : CellsAt w' a b off xs :=
  ⟨h.addr, fun hx => Nat.lt_of_lt_of_le (h.lt hx) e.size, fun i hi => by
    have hb := h.lt (by rintro rfl; simp at hi)
    obtain ⟨ta, tb, toff, tcap, h1, h2, h3, h4⟩ := h.cell i hi
    exact ⟨ta, tb, toff, tcap, h1.mono e, keep_ext e hb h2, keep_ext e hb h3, keep_ext e hb h4⟩⟩
theorem CellsAt.idx {P : Program} {T E : TypeId} (hT : P.underlying T = some (.slice E)) (hE : ∀ W : World, (sizeOf E).run P W = .ok 3 W)
    {w : World} {a : Option Addr} {b off : Nat} {xs : List PCell} (h : CellsAt w a b off xs) (cap : Nat) (k : Nat) (W : World) (hk : k < xs.length) :
    (Instr.indexAt T (.slice a xs.length cap) (.int .i64 (k : Int))).run P W = .ok (.pointer (some ⟨b, off + k * 3, none⟩)) W :=
  idx_run hT hE (n := xs.length) (fun hn => h.addr (by rintro rfl; exact hn rfl)) cap k W hk

structure FieldAt (w : World) (a : Option Addr) (b off : Nat) (f : List (List PCell)) : Prop where
  addr : f ≠ [] → a = some ⟨b, off, none⟩
  lt : f ≠ [] → b < w.heap.size
  cell : ∀ i, i < f.length → ∃ ca cb coff ccap, CellsAt w ca cb coff (f.getD i []) ∧ w.cell? ⟨b, off + i, none⟩ = some (.slice ca (f.getD i []).length ccap)
theorem FieldAt.mono {w w' : World} {a : Option Addr} {b off : Nat} {xs : List (List PCell)} (h : FieldAt w a b off xs) (e : Ext w w') : FieldAt w' a b off xs :=
  ⟨h.addr, fun hx => Nat.lt_of_lt_of_le (h.lt hx) e.size, fun i hi => by
    have hb := h.lt (by rintro rfl; simp at hi)
    obtain ⟨ta, tb, toff, tcap, h1, h2⟩ := h.cell i hi
    exact ⟨ta, tb, toff, tcap, h1.mono e, keep_ext e hb h2⟩⟩
theorem FieldAt.idx {P : Program} {T E : TypeId} (hT : P.underlying T = some (.slice E)) (hE : ∀ W : World, (sizeOf E).run P W = .ok 1 W)
    {w : World} {a : Option Addr} {b off : Nat} {xs : List (List PCell)} (h : FieldAt w a b off xs) (cap : Nat) (k : Nat) (W : World) (hk : k < xs.length) :
    (Instr.indexAt T (.slice a xs.length cap) (.int .i64 (k : Int))).run P W = .ok (.pointer (some ⟨b, off + k, none⟩)) W := by
  have := idx_run hT hE (n := xs.length) (fun hn => h.addr (by rintro rfl; exact hn rfl)) cap k W hk
  rwa [Nat.mul_one] at this

end Go.Proofs.Ytencdgmcpnbfcaa
