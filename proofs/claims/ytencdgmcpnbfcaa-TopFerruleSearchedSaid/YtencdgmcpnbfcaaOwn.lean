/- A slice that the call itself makes: one append a round; what it reads as in the end. -/
import Derived.Test.YtencdgmcpnbfcaaBase
namespace Go.Proofs.Ytencdgmcpnbfcaa
open Go.RowKit

theorem owns_ext {w w' : World} {base : Nat} {e : TypeId} {size n : Nat} {v : Value} {xs : List Value} (h : w.ownsRow base e size v n xs) (x : Ext w w') : w'.ownsRow base e size v n xs := by
  obtain ⟨h1, h2⟩ := h
  refine ⟨h1, ?_⟩
  rcases h2 with h2 | ⟨g, cap, cur, hv, hg, hh, r⟩
  · exact Or.inl h2
  · have hlt : g < w.heap.size := (Array.getElem?_eq_some_iff.1 hh).1
    have hb : w'.heap[g]? = w.heap[g]? := Below.block x g hlt
    exact Or.inr ⟨g, cap, cur, hv, hg, by rw [hb]; exact hh, r⟩

theorem owns_nil (w : World) (base : Nat) (e : TypeId) (size : Nat) : w.ownsRow base e size (.slice none 0 0) 0 [] := ⟨by simp, .inl ⟨rfl, rfl⟩⟩

/-- What is owned from 'base' on is one block, and that block is no older than 'base'. -/
theorem owns_block {w : World} {base : Nat} {e : TypeId} {size n : Nat} {v : Value} {xs : List Value} (h : w.ownsRow base e size v n xs) : ∀ k, v.ownBlock = some k → base ≤ k := by
  intro k hk
  rcases h.2 with ⟨rfl, _⟩ | ⟨g, cap, cur, rfl, hg, _⟩
  · simp [Value.ownBlock] at hk
  · simp [Value.ownBlock] at hk; omega

/-- 'append(out, x)': out is the call's own, x has just been built. -/
theorem append_new {P : Program} {ops : Array Oper} {rest : List Oper} {o : Oper} {a : Act} {Q : Exit → Act → World → Prop} {us : List Value} {T : TypeId} (w : World) (hgd : o.guard = none) (s x : Operand) (t : TypeId)
    (ho : o.op = .call { callee := .builtin .append, args := #[s, x], argTypes := #[t, t] }) (base : Nat) (e : TypeId) (z : Value) (size bytes : Nat) (ht : P.underlying t = some (.slice e))
    (hinfo : (P.info? e).map (fun i => (i.zero, i.size, i.bytes)) = some (some z, size, bytes)) (hzs : z.cells.size = size) (hsz : 0 < size)
    (v : Value) (n : Nat) (xs : List Value) (hs : a.eval s = v) (hown : w.ownsRow base e size v n xs) (c : Nat) (hx : a.eval x = .slice (some ⟨w.heap.size, 0, none⟩) 1 c) (hl : us.length = size)
    (h1 : ∀ u ∈ us, u.oneCell' = true) (h63 : n + 1 ≤ maxLen) (hbytes : (n + 1) * bytes ≤ 140737488355328) (hbase : base ≤ w.heap.size)
    (h : ∀ v' w', w'.ownsRow base e size v' (n + 1) (xs ++ us) → (∀ B w0, Below B w0 w → B ≤ base → Below B w0 w') → w.heap.size < w'.heap.size → wpList P ops Q rest (a.put o.dst v') w') :
    wpList P ops Q (o :: rest) a (w.alloc (.cells us.toArray T)) := by
  obtain ⟨i, hi, hz0, hz1, hz2⟩ := info_parts hinfo
  refine wpList_append_own (w.alloc (.cells us.toArray T)) hgd s x t ho base e i z size bytes ht hi hz0 hz1 hz2 hzs hsz v n xs hs (owns_ext hown ((Ext.refl _).alloc _)) ⟨w.heap.size, 0, none⟩ 1 c us hx (by rw [hl, Nat.one_mul]) (fun j u hj => ?_) h1 h63 hbytes (Nat.le_trans hbase (by simp)) fun v' w' h2 h3 _ => h v' w' h2 (fun B w0 hb hB => ?_) (Nat.lt_of_lt_of_le (by simp) h3.size)
  · have e : (⟨w.heap.size, 0, none⟩ : Addr).add j = ⟨w.heap.size, j, none⟩ := by simp [Addr.add]; omega
    rw [e, World.cell?_alloc_at _ _ _ _ rfl]
    simpa using hj
  · exact (hb.alloc (Nat.le_trans hB hbase) _).grown h3 (Nat.le_trans hB (Nat.le_trans hbase (by simp))) (fun k hk => Nat.le_trans hB (owns_block hown k hk))

theorem owns_ints {w : World} {base : Nat} {e : TypeId} {v : Value} {n : Nat} {xs : List Int} (hn : n = xs.length) (h : w.ownsRow base e 1 v n (xs.map (Value.int .i64))) :
    ∃ a b cap, v = .slice a xs.length cap ∧ IntsAt w a b 0 xs ∧ (xs ≠ [] → base ≤ b) := by
  subst hn
  rcases h.2 with ⟨rfl, h0⟩ | ⟨g, cap, cur, rfl, hg, hh, hle, hml, hsz, htk⟩
  · have : xs = [] := by simpa using h0
    subst this
    exact ⟨none, 0, 0, rfl, ⟨fun h => absurd rfl h, fun h => absurd rfl h, fun i hi => by simp at hi⟩, fun h => absurd rfl h⟩
  · refine ⟨_, g, cap, rfl, ⟨fun _ => rfl, fun _ => (Array.getElem?_eq_some_iff.1 hh).1, fun i hi => ?_⟩, fun _ => hg⟩
    simp only [World.cell?, hh, Nat.zero_add, Option.isSome_none, Bool.false_eq_true, if_false]
    have h1 : cur.toList[i]? = (cur.toList.take (xs.length * 1))[i]? := by rw [List.getElem?_take_of_lt (by omega)]
    rw [← Array.getElem?_toList, h1, htk]
    simp [List.getD_eq_getElem?_getD, hi]
end Go.Proofs.Ytencdgmcpnbfcaa
