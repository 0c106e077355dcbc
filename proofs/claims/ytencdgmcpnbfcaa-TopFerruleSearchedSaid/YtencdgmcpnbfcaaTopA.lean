/- the top package: a field of the reference's own, and as one of the program. -/
import Derived.Test.YtencdgmcpnbfcaaCertC
import Derived.Test.YtencdgmcpnbfcaaRefC
namespace Go.Proofs.Ytencdgmcpnbfcaa
open Go.RowKit
set_option maxHeartbeats 2000000
set_option maxRecDepth 100000

theorem ext_grown_none {w w' : World} (h : w.grownBy w' none) : Ext w w' := Ext.of (Below.grown (Below.refl _ _) h (Nat.le_refl _) (fun k e => by cases e))
/-- 'append(T{}, l...)': a copy of l. -/
theorem append_copy {P : Program} {ops : Array Oper} {rest : List Oper} {o : Oper} {a : Act} {Q : Exit → Act → World → Prop} {T : TypeId} (w : World) (hgd : o.guard = none) (s x : Operand) (t : TypeId)
    (ho : o.op = .call { callee := .builtin .append, args := #[s, x], argTypes := #[t, t] }) (e : TypeId) (hT : T = e) (z : Value) (size bytes : Nat) (ht : P.underlying t = some (.slice e))
    (hinfo : (P.info? e).map (fun i => (i.zero, i.size, i.bytes)) = some (some z, size, bytes)) (hzs : z.cells.size = size) (hsz : 0 < size)
    (n0 : Nat) (hs : a.eval s = .slice (some ⟨n0, 0, none⟩) 0 0) (hn0 : n0 = w.heap.size) (ad : Addr) (m c : Nat) (news : List Value) (hx : a.eval x = .slice (some ad) m c) (hlt : ad.block < w.heap.size)
    (hl : news.length = m * size) (hnews : ∀ j u, news[j]? = some u → w.cell? (ad.add j) = some u) (h1 : ∀ u ∈ news, u.oneCell' = true) (h63 : m ≤ maxLen) (hbytes : m * bytes ≤ 140737488355328)
    (h : ∀ v' w', w'.ownsRow w.heap.size e size v' m news → Ext w w' → wpList P ops Q rest (a.put o.dst v') w') :
    wpList P ops Q (o :: rest) a (w.alloc (.cells #[] T)) := by
  subst hT hn0
  obtain ⟨i, hi, hz0, hz1, hz2⟩ := info_parts hinfo
  have hown : (w.alloc (.cells #[] T)).ownsRow w.heap.size T size (.slice (some ⟨w.heap.size, 0, none⟩) 0 0) 0 [] := World.ownsRow_made w #[] 0 (Nat.le_refl _) (by simp [maxLen]) (by simp)
  refine wpList_append_own (w.alloc (.cells #[] T)) hgd s x t ho w.heap.size T i z size bytes ht hi hz0 hz1 hz2 hzs hsz _ 0 [] hs hown ad m c news hx hl (fun j u hj => ?_) h1 (by omega) (by simpa using hbytes) (by simp) fun v' w' h2 h3 _ => ?_
  · have hb : (ad.add j).block < w.heap.size := by simp only [Addr.add]; split <;> exact hlt
    rw [((Ext.refl w).alloc (.cells #[] T)).cell hb]; exact hnews j u hj
  · rw [Nat.zero_add, List.nil_append] at h2
    refine h v' w' h2 ?_
    exact Ext.of (((Below.refl _ w).alloc (Nat.le_refl _) _).grown h3 (by simp) (fun k e => by simp [Value.ownBlock] at e; omega))
theorem row_ne {w : World} {base base' : Nat} {e e' : TypeId} {size size' n n' : Nat} {v v' : Value} {xs xs' : List Value} (h : w.ownsRow base e size v n xs) (h' : w.ownsRow base' e' size' v' n' xs') (hne : e ≠ e') : v.ownBlock = none ∨ v.ownBlock ≠ v'.ownBlock := by
  rcases h.2 with ⟨rfl, _⟩ | ⟨g, cap, cur, rfl, _, hgb, _⟩
  · exact .inl rfl
  · rcases h'.2 with ⟨rfl, _⟩ | ⟨g', cap', cur', rfl, _, hgb', _⟩
    · right; simp [Value.ownBlock]
    · right
      intro e1
      simp [Value.ownBlock] at e1
      subst e1
      rw [hgb] at hgb'
      simp at hgb'
      exact hne hgb'.2
/-- The cells of points, of any slice that reads as them. -/
theorem pts_news {w : World} {a : Option Addr} {b off : Nat} {ps : List (Int × Int)} (h : PtsAt w a b off ps) (j : Nat) (u : Value) (hj : (peakCells ps)[j]? = some u) : w.cell? ((⟨b, off, none⟩ : Addr).add j) = some u := by
  have hlt : j < ps.length * 2 := by
    rw [← peakCells_length]
    exact (List.getElem?_eq_some_iff.1 hj).1
  have hi : j / 2 < ps.length := by omega
  obtain ⟨g1, g2⟩ := peakCells_get ps (j / 2) hi
  have e : (⟨b, off, none⟩ : Addr).add j = ⟨b, off + j, none⟩ := by simp only [Addr.add]; split <;> simp_all
  rw [e]
  rcases (show j = j / 2 * 2 ∨ j = j / 2 * 2 + 1 by omega) with h1 | h1
  · rw [h1] at hj ⊢
    rw [g1] at hj
    cases hj
    exact h.cellX _ hi
  · have h2 := h.cellY _ hi
    rw [← h1] at g2
    rw [g2] at hj
    cases hj
    rw [show off + j = off + j / 2 * 2 + 1 by omega]
    exact h2
theorem owns_pts {w : World} {base : Nat} {e : TypeId} {v : Value} {n : Nat} {ps : List (Int × Int)} (hn : n = ps.length) (h : w.ownsRow base e 2 v n (peakCells ps)) :
    ∃ ta tb tcap, v = .slice ta ps.length tcap ∧ PtsAt w ta tb 0 ps := by
  obtain ⟨a, b, cap, hv, hp⟩ := owns_peaks hn h
  exact ⟨a, b, cap, hv, ⟨hp.addr, hp.lt, fun i hi => by rw [Nat.zero_add]; exact hp.c0 i hi, fun i hi => by rw [Nat.zero_add]; exact hp.c1 i hi⟩⟩

/-- The k-th cell among those that a row holds: its points lie in a row of their own. -/
def CellU (w : World) (e : TypeId) (base : Nat) (us : List Value) (i : Nat) (c : PCell) : Prop :=
  ∃ v, w.ownsRow base e 2 v c.tab.length (peakCells c.tab) ∧ us[i * 3]? = some v ∧ us[i * 3 + 1]? = some (.int .i64 c.light) ∧ us[i * 3 + 2]? = some (.int .i64 c.drop)
theorem CellU.app {w : World} {e : TypeId} {base : Nat} {us : List Value} {i : Nat} {c : PCell} (h : CellU w e base us i c) (vs : List Value) : CellU w e base (us ++ vs) i c := by
  obtain ⟨v, h0, h1, h2, h3⟩ := h
  have k1 := (List.getElem?_eq_some_iff.1 h1).1
  have k2 := (List.getElem?_eq_some_iff.1 h2).1
  have k3 := (List.getElem?_eq_some_iff.1 h3).1
  exact ⟨v, h0, by rw [List.getElem?_append_left k1]; exact h1, by rw [List.getElem?_append_left k2]; exact h2, by rw [List.getElem?_append_left k3]; exact h3⟩
theorem CellU.last {w : World} {e : TypeId} {base : Nat} {us : List Value} {i : Nat} {c : PCell} {v : Value} (h : w.ownsRow base e 2 v c.tab.length (peakCells c.tab)) (hl : us.length = i * 3) : CellU w e base (us ++ [v, .int .i64 c.light, .int .i64 c.drop]) i c :=
  ⟨v, h, by rw [← hl, List.getElem?_append_right (by omega)]; simp, by rw [← hl, List.getElem?_append_right (by omega)]; simp, by rw [← hl, List.getElem?_append_right (by omega)]; simp⟩
theorem CellU.kept {w w' : World} {row : Option Nat} {e : TypeId} {base : Nat} {us : List Value} {i : Nat} {c : PCell} (h : CellU w e base us i c) (hg : w.grownBy w' row) (hne : ∀ v : Value, w.ownsRow base e 2 v c.tab.length (peakCells c.tab) → v.ownBlock = none ∨ v.ownBlock ≠ row) : CellU w' e base us i c := by
  obtain ⟨v, h0, h1⟩ := h
  exact ⟨v, h0.kept hg (hne v h0), h1⟩
theorem CellU.ext {w w' : World} {e : TypeId} {base : Nat} {us : List Value} {i : Nat} {c : PCell} (h : CellU w e base us i c) (x : Ext w w') : CellU w' e base us i c := by
  obtain ⟨v, h0, h1⟩ := h
  exact ⟨v, owns_ext h0 x, h1⟩

theorem keep_new {w : World} {b : Nat} {q off : Nat} {u : Value} {o : Obj} (h : w.cell? ((⟨b, off, none⟩ : Addr).add q) = some u) (hb : b < w.heap.size) : (w.alloc o).cell? ((⟨b, off, none⟩ : Addr).add q) = some u := by
  have e : ((⟨b, off, none⟩ : Addr).add q) = ⟨b, off + q, none⟩ := by simp only [Addr.add]; split <;> simp_all
  rw [e] at h ⊢
  exact keep_ext ((Ext.refl w).alloc o) hb h
theorem peakCells_one (ps : List (Int × Int)) : ∀ u ∈ peakCells ps, u.oneCell' = true := by
  intro u hu
  simp only [peakCells, List.mem_flatMap] at hu
  obtain ⟨p, _, hp⟩ := hu
  simp at hp
  rcases hp with rfl | rfl <;> rfl
theorem owns_some {w : World} {base : Nat} {e : TypeId} {size : Nat} {v : Value} {n : Nat} {xs : List Value} (h : w.ownsRow base e size v n xs) (hn : 0 < n) : ∃ g cap, v = .slice (some ⟨g, 0, none⟩) n cap := by
  rcases h.2 with ⟨_, h0⟩ | ⟨g, cap, _, rfl, _⟩
  · omega
  · exact ⟨g, cap, rfl⟩
/-- 'append(out, x)' where out is the call's own: what else lies there. -/
theorem append_newG {P : Program} {ops : Array Oper} {rest : List Oper} {o : Oper} {a : Act} {Q : Exit → Act → World → Prop} {us : List Value} {T : TypeId} (w : World) (hgd : o.guard = none) (s x : Operand) (t : TypeId)
    (ho : o.op = .call { callee := .builtin .append, args := #[s, x], argTypes := #[t, t] }) (base : Nat) (e : TypeId) (z : Value) (size bytes : Nat) (ht : P.underlying t = some (.slice e))
    (hinfo : (P.info? e).map (fun i => (i.zero, i.size, i.bytes)) = some (some z, size, bytes)) (hzs : z.cells.size = size) (hsz : 0 < size)
    (v : Value) (n : Nat) (xs : List Value) (hs : a.eval s = v) (hown : w.ownsRow base e size v n xs) (n0 c : Nat) (hx : a.eval x = .slice (some ⟨n0, 0, none⟩) 1 c) (hn0 : n0 = w.heap.size) (hl : us.length = size)
    (h1 : ∀ u ∈ us, u.oneCell' = true) (h63 : n + 1 ≤ maxLen) (hbytes : (n + 1) * bytes ≤ 140737488355328) (hbase : base ≤ w.heap.size)
    (h : ∀ v' w', w'.ownsRow base e size v' (n + 1) (xs ++ us) → (w.alloc (.cells us.toArray T)).grownBy w' v.ownBlock → wpList P ops Q rest (a.put o.dst v') w') :
    wpList P ops Q (o :: rest) a (w.alloc (.cells us.toArray T)) := by
  subst hn0
  obtain ⟨i, hi, hz0, hz1, hz2⟩ := info_parts hinfo
  refine wpList_append_own (w.alloc (.cells us.toArray T)) hgd s x t ho base e i z size bytes ht hi hz0 hz1 hz2 hzs hsz v n xs hs (owns_ext hown ((Ext.refl _).alloc _)) ⟨w.heap.size, 0, none⟩ 1 c us hx (by rw [hl, Nat.one_mul]) (fun j u hj => cells_new w us T j u hj) h1 h63 hbytes (Nat.le_trans hbase (by simp)) fun v' w' h2 h3 _ => h v' w' h2 h3
theorem base_le {w : World} {base base' : Nat} {e : TypeId} {size n : Nat} {v : Value} {xs : List Value} (h : w.ownsRow base e size v n xs) (hb : base' ≤ base) : w.ownsRow base' e size v n xs :=
  ⟨h.1, h.2.imp id fun ⟨g, cap, cur, h1, h2, h3⟩ => ⟨g, cap, cur, h1, Nat.le_trans hb h2, h3⟩⟩
theorem grown_ext {w0 w w' : World} {base : Nat} {e : TypeId} {size n : Nat} {v : Value} {xs : List Value} {tmp : Obj} (x : Ext w0 w) (hown : w.ownsRow base e size v n xs) (hb : w0.heap.size ≤ base) (hg : (w.alloc tmp).grownBy w' v.ownBlock) : Ext w0 w' :=
  Ext.of ((Below.alloc x (Ext.size x) tmp).grown hg (Nat.le_trans x.size (by simp)) (fun k hk => Nat.le_trans hb (owns_block hown k hk)))
theorem CellU.next {W w' : World} {base eR eP : Nat} {v5 v3 : Value} {us : List Value} {j : Nat} {cs : List PCell} {c : PCell} {tmp : Obj} (hne : eP ≠ eR) (hown : W.ownsRow base eR 3 v5 j us) (hul : us.length = j * 3) (hcu : ∀ t, t < j → CellU W eP base us t (cs.getD t default)) (hc : cs.getD j default = c)
    (hv3 : W.ownsRow base eP 2 v3 c.tab.length (peakCells c.tab)) (hg : (W.alloc tmp).grownBy w' v5.ownBlock) : ∀ t, t < j + 1 → CellU w' eP base (us ++ [v3, .int .i64 c.light, .int .i64 c.drop]) t (cs.getD t default) := by
  have hx := (Ext.refl W).alloc tmp
  have hown2 := owns_ext hown hx
  have hv32 := owns_ext hv3 hx
  intro t ht
  by_cases e : t = j
  · subst e
    rw [hc]
    exact CellU.last (hv32.kept hg (row_ne hv32 hown2 hne)) hul
  · exact (((hcu t (by omega)).ext hx).kept hg (fun v hv => row_ne hv hown2 hne)).app _
def Box3 (W : World) (B : Nat) (t : TypeId) (u v x : Value) : Prop := W.heap[B]? = some (.cells #[u, v, x] t (0, 0))
section
variable {W : World} {B : Nat} {t : TypeId} {u v x : Value}
theorem Box3.lt (h : Box3 W B t u v x) : B < W.heap.size := (Array.getElem?_eq_some_iff.1 h).1
theorem Box3.c0 (h : Box3 W B t u v x) : W.cell? ⟨B, 0, none⟩ = some u := by simp [World.cell?, show W.heap[B]? = _ from h]
theorem Box3.c1 (h : Box3 W B t u v x) : W.cell? ⟨B, 1, none⟩ = some v := by simp [World.cell?, show W.heap[B]? = _ from h]
theorem Box3.c2 (h : Box3 W B t u v x) : W.cell? ⟨B, 2, none⟩ = some x := by simp [World.cell?, show W.heap[B]? = _ from h]
theorem Box3.fr (h : Box3 W B t u v x) (o : Nat) : W.frozen? ⟨B, o, none⟩ = false := by simp [World.frozen?, show W.heap[B]? = _ from h]
theorem Box3.new (W : World) (t : TypeId) (u v x : Value) : Box3 (W.alloc (.cells #[u, v, x] t)) W.heap.size t u v x := World.alloc_heap_new W _
theorem box3_all (h : Box3 W B t u v x) : W.cell? ⟨B, 0, none⟩ = some u ∧ W.cell? ⟨B, 1, none⟩ = some v ∧ W.cell? ⟨B, 2, none⟩ = some x ∧ W.frozen? ⟨B, 0, none⟩ = false := ⟨h.c0, h.c1, h.c2, h.fr 0⟩
theorem Box3.ext {W' : World} (h : Box3 W B t u v x) (e : Ext W W') : Box3 W' B t u v x := (Below.block e B h.lt).trans h
end
/-- A chain: its cells lie in a row of their own. -/
def ChainU (w : World) (e e2 : TypeId) (base : Nat) (v : Value) (cs : List PCell) : Prop :=
  ∃ us, w.ownsRow base e 3 v cs.length us ∧ ∀ i, i < cs.length → CellU w e2 base us i (cs.getD i default)
theorem ChainU.ext {w w' : World} {e e2 : TypeId} {base : Nat} {v : Value} {cs : List PCell} (h : ChainU w e e2 base v cs) (x : Ext w w') : ChainU w' e e2 base v cs :=
  let ⟨us, h1, h2⟩ := h; ⟨us, owns_ext h1 x, fun i hi => (h2 i hi).ext x⟩
theorem ChainU.kept {w w' : World} {e e2 eO : TypeId} {base baseO sO nO : Nat} {v vO : Value} {xsO : List Value} {cs : List PCell} (h : ChainU w e e2 base v cs) (hO : w.ownsRow baseO eO sO vO nO xsO) (hg : w.grownBy w' vO.ownBlock) (n1 : e ≠ eO) (n2 : e2 ≠ eO) : ChainU w' e e2 base v cs :=
  let ⟨us, h1, h2⟩ := h; ⟨us, h1.kept hg (row_ne h1 hO n1), fun i hi => (h2 i hi).kept hg (fun v hv => row_ne hv hO n2)⟩
theorem ChainU.base {w : World} {e e2 : TypeId} {base base' : Nat} {v : Value} {cs : List PCell} (h : ChainU w e e2 base v cs) (hb : base' ≤ base) : ChainU w e e2 base' v cs :=
  let ⟨us, h1, h2⟩ := h; ⟨us, base_le h1 hb, fun i hi => let ⟨v, k1, k2⟩ := h2 i hi; ⟨v, base_le k1 hb, k2⟩⟩
theorem ChainU.next {W w' : World} {base eO eR eP : Nat} {vO v : Value} {vs : List Value} {k : Nat} {f : List (List PCell)} {cs : List PCell} {tmp : Obj} (n1 : eR ≠ eO) (n2 : eP ≠ eO) (hown : W.ownsRow base eO 1 vO k vs) (hvl : vs.length = k) (hch : ∀ j, j < k → ∃ u, vs[j]? = some u ∧ ChainU W eR eP base u (f.getD j []))
    (hc : f.getD k [] = cs) (hv : ChainU W eR eP base v cs) (hg : (W.alloc tmp).grownBy w' vO.ownBlock) : ∀ j, j < k + 1 → ∃ u, (vs ++ [v])[j]? = some u ∧ ChainU w' eR eP base u (f.getD j []) := by
  have hx := (Ext.refl W).alloc tmp
  have hown2 := owns_ext hown hx
  intro j hj
  by_cases e : j = k
  · subst e
    exact ⟨v, by rw [List.getElem?_append_right (by omega)]; simp [hvl], by rw [hc]; exact (hv.ext hx).kept hown2 hg n1 n2⟩
  · obtain ⟨u, h1, h2⟩ := hch j (by omega)
    exact ⟨u, by rw [List.getElem?_append_left (by omega)]; exact h1, (h2.ext hx).kept hown2 hg n1 n2⟩
theorem cellsAt_owned {w : World} {e e2 : TypeId} {base : Nat} {v : Value} {cs : List PCell} (h : ChainU w e e2 base v cs) : ∃ ca cb ccap, v = .slice ca cs.length ccap ∧ CellsAt w ca cb 0 cs := by
  obtain ⟨us, h1, h2⟩ := h
  rcases h1.2 with ⟨rfl, h0⟩ | ⟨g, cap, cur, rfl, hg, hh, hle, hml, hsz, htk⟩
  · have : cs = [] := by simpa using h0
    subst this
    exact ⟨none, 0, 0, rfl, ⟨fun h => absurd rfl h, fun h => absurd rfl h, fun i hi => by simp at hi⟩⟩
  · have hget : ∀ j u, j < cs.length * 3 → us[j]? = some u → w.cell? ⟨g, j, none⟩ = some u := by
      intro j u hj hu
      rw [← htk, List.getElem?_take_of_lt hj] at hu
      simp [World.cell?, hh]
      simpa using hu
    refine ⟨some ⟨g, 0, none⟩, g, cap, rfl, fun _ => rfl, fun _ => (Array.getElem?_eq_some_iff.1 hh).1, fun i hi => ?_⟩
    obtain ⟨u, k1, k2, k3, k4⟩ := h2 i hi
    obtain ⟨ta, tb, tcap, rfl, hp⟩ := owns_pts rfl k1
    rw [Nat.zero_add]
    exact ⟨ta, tb, 0, tcap, hp, hget _ _ (by omega) k2, hget _ _ (by omega) k3, hget _ _ (by omega) k4⟩
theorem fieldAt_owned {w : World} {e e2 e3 : TypeId} {base g n cap : Nat} {vs : List Value} {f : List (List PCell)} (h : w.ownsRow base e3 1 (.slice (some ⟨g, 0, none⟩) n cap) f.length vs) (hc : ∀ j, j < f.length → ∃ u, vs[j]? = some u ∧ ChainU w e e2 base u (f.getD j [])) : FieldAt w (some ⟨g, 0, none⟩) g 0 f := by
  rcases h.2 with ⟨h, h0⟩ | ⟨g', cap', cur, hv, hg, hh, hle, hml, hsz, htk⟩
  · cases h
  · cases hv
    refine ⟨fun _ => rfl, fun _ => (Array.getElem?_eq_some_iff.1 hh).1, fun i hi => ?_⟩
    obtain ⟨u, k1, k2⟩ := hc i hi
    obtain ⟨ca, cb, ccap, rfl, hp⟩ := cellsAt_owned k2
    refine ⟨ca, cb, 0, ccap, hp, ?_⟩
    rw [← htk, List.getElem?_take_of_lt (by omega)] at k1
    rw [Nat.zero_add]
    simp [World.cell?, hh]
    simpa using k1
theorem infoPt : (Try.prog.info? 49).map (fun i => (i.zero, i.size, i.bytes)) = some (some (.agg #[.int .i64 0, .int .i64 0]), 2, 16) := by kernel_rfl
theorem infoRC : (Try.prog.info? 59).map (fun i => (i.zero, i.size, i.bytes)) = some (some (.agg #[.slice none 0 0, .int .i64 0, .int .i64 0]), 3, 40) := by kernel_rfl
theorem infoRL : (Try.prog.info? 46).map (fun i => (i.zero, i.size, i.bytes)) = some (some (.slice none 0 0), 1, 24) := by kernel_rfl

theorem own_ref (f : List (List PCell)) (a : Option Addr) (b off cap : Nat) (w : World) (ok : FieldOk' f) (H : FieldAt w a b off f) :
    Calls Try.prog 22 #[.slice a f.length cap] w fun r w' => ∃ a' b' cap', r = .returned (.slice a' f.length cap') ∧ FieldAt w' a' b' 0 f ∧ Ext w w' := by
  have h1 := ok.1
  have h2 := ok.2.1
  have h3 := ok.2.2
  go_enter Try.func22, Try.ntmps22
  go_wp2
  go_loopw [3, 4] (fun v i wr => ∃ (k : Nat) (vs : List Value), k ≤ f.length ∧ i = .int .i64 k ∧ vs.length = k ∧ wr.ownsRow w.heap.size 46 1 v k vs ∧ (∀ j, j < k → ∃ u, vs[j]? = some u ∧ ChainU wr 59 49 w.heap.size u (f.getD j [])) ∧ Ext w wr) (fun _ i _ => f.length - (intOf i).toNat)
  case atStart => exact ⟨0, [], Nat.zero_le _, rfl, rfl, owns_nil _ _ _ _, fun j hj => by omega, Ext.refl _⟩
  case round =>
    obtain ⟨k, vs, hk, rfl, hvl, hown, hch, hx⟩ := hrel
    have Hvl := Lib.hid hvl
    have Hch := Lib.hid hch
    clear hvl hch
    have hidx := FieldAt.idx Try.underlying22 szChainR H cap k
    by_cases hlt : k < f.length
    · have hH := H.mono hx
      have hne : f ≠ [] := by rintro rfl; simp at hlt
      obtain ⟨ca, cb, coff, ccap, hC, hcc⟩ := hH.cell k hlt
      have hmem := h3 (f.getD k []) (by simp [List.getD_eq_getElem?_getD, hlt])
      generalize hcs : f.getD k [] = cs at *
      have Hcs := Lib.hid hcs
      clear hcs
      have hm1 := hmem.1
      have hm2 := hmem.2.1
      have Hm := Lib.hid hmem.2.2
      clear hmem
      obtain ⟨wo, hwo⟩ : ∃ wo : World, wo = wr := ⟨_, rfl⟩
      subst hwo
      go_wp2_with fail
      go_loopw [5, 6] (fun v i wx => ∃ (j : Nat) (us : List Value), j ≤ cs.length ∧ i = .int .i64 j ∧ us.length = j * 3 ∧ wx.ownsRow wo.heap.size 59 3 v j us ∧ (∀ t, t < j → CellU wx 49 wo.heap.size us t (cs.getD t default)) ∧ Ext wo wx) (fun _ i _ => cs.length - (intOf i).toNat)
      case atStart => exact ⟨0, [], Nat.zero_le _, rfl, rfl, owns_nil _ _ _ _, fun t ht => by omega, Ext.refl _⟩
      case round =>
        obtain ⟨j, us, hj, rfl, hul, hownI, hcu, hxr⟩ := hrel
        have Hul := Lib.hid hul
        have Hcu := Lib.hid hcu
        clear hul hcu
        have hcc2 := keep_ext hxr (hH.lt hne) hcc
        have hidj := CellsAt.idx Try.underlying46 szCellR hC ccap j
        by_cases hjl : j < cs.length
        · obtain ⟨ta, tb, toff, tcap, hP, c1, c2, c3⟩ := (hC.mono hxr).cell j hjl
          have hok := Hm.out (cs.getD j default) (by simp [List.getD_eq_getElem?_getD, hjl])
          generalize hcc0 : cs.getD j default = c at *
          have Hc0 := Lib.hid hcc0
          clear hcc0
          have ht2 := hok.tab.two
          have ht8 := hok.tab.eight
          clear hok
          have hta := hP.addr (by intro e; rw [e] at ht2; simp at ht2)
          have htb := hP.lt (by intro e; rw [e] at ht2; simp at ht2)
          subst hta
          go_wp2_with (first
            | (at_builtin; refine append_copy _ rfl (.tmp 30) (.tmp 32) 57 rfl 49 rfl (.agg #[.int .i64 0, .int .i64 0]) 2 16 Try.underlying57 infoPt rfl (by decide) _ rfl (by simp) ⟨tb, toff, none⟩ c.tab.length tcap (peakCells c.tab) rfl (by simp; omega) (peakCells_length _) (fun q u hq => keep_new (pts_news hP q u hq) htb) (peakCells_one _) (by simp [maxLen]; omega) (by omega) ?_; intro v' w3 hown3 hx3; obtain ⟨g3, cap3, rfl⟩ := owns_some hown3 (by omega); obtain ⟨c30, c31, c32, f30⟩ := box3_all ((Box3.new wr 59 _ _ _).ext hx3); have hx30 : Ext wr w3 := ((Ext.refl wr).alloc _).trans hx3)
            | (at_builtin; refine append_newG _ rfl (.tmp 35) (.tmp 37) 46 rfl wo.heap.size 59 (.agg #[.slice none 0 0, .int .i64 0, .int .i64 0]) 3 40 Try.underlying46 infoRC rfl (by decide) _ _ _ rfl (owns_ext hownI (hx30.setCell (Nat.le_refl _) _)) _ 1 rfl (by simp) rfl (by simp [Value.oneCell']) (by simp [maxLen]; omega) (by omega) ((hxr.trans hx30).setCell (Ext.size hxr) _).size ?_; intro v' w4 hown4 hg4))
          have hg3 := (hown3.lt g3 rfl).1
          have hW := hx30.setCell (p := ⟨wr.heap.size, 0, none⟩) (Nat.le_refl _) (.slice (some ⟨g3, 0, none⟩) c.tab.length cap3)
          have hv3 := base_le (base' := wo.heap.size) (hown3.kept (grownBy_setCell' w3 wr.heap.size (.slice (some ⟨g3, 0, none⟩) c.tab.length cap3)) (.inr (by simp [Value.ownBlock]; simp at hg3; omega))) (by have := Ext.size hxr; simp; omega)
          exact ⟨⟨j + 1, _, hjl, by go_num, by simp [Hul.out]; omega, hown4, CellU.next (by decide) (owns_ext hownI hW) Hul.out (fun t ht => (Hcu.out t ht).ext hW) Hc0.out hv3 hg4, grown_ext (hxr.trans hW) (owns_ext hownI hW) (Nat.le_refl _) hg4⟩, by simp [intOf]; omega⟩
        · obtain rfl : j = cs.length := by omega
          obtain ⟨g5, cap5, rfl⟩ := owns_some hownI (by omega)
          have hChain : Hid (ChainU wr 59 49 w.heap.size (.slice (some ⟨g5, 0, none⟩) cs.length cap5) cs) := ChainU.base ⟨us, hownI, Hcu.out⟩ hx.size
          go_wp2_with (at_builtin; refine append_newG _ rfl (.tmp 39) (.tmp 41) 22 rfl w.heap.size 46 (.slice none 0 0) 1 24 Try.underlying22 infoRL rfl (by decide) _ _ _ rfl (owns_ext hown hxr) _ 1 rfl (by simp) rfl (by simp [Value.oneCell']) (by simp [maxLen]; omega) (by omega) (hx.trans hxr).size ?_; intro v' w4 hown4 hg4)
          exact ⟨⟨k + 1, _, hlt, by go_num, by simp [Hvl.out], hown4, ChainU.next (by decide) (by decide) (owns_ext hown hxr) Hvl.out (fun t ht => (Hch.out t ht).imp fun u hu => ⟨hu.1, hu.2.ext hxr⟩) Hcs.out hChain.out hg4, grown_ext (hx.trans hxr) (owns_ext hown hxr) (Nat.le_refl _) hg4⟩, by simp [intOf]; omega⟩
    · obtain rfl : k = f.length := by omega
      obtain ⟨g3, cap3, rfl⟩ := owns_some hown (by omega)
      have hF : Hid (FieldAt wr (some ⟨g3, 0, none⟩) g3 0 f) := fieldAt_owned hown Hch.out
      go_wp2
      go_ret
      exact ⟨_, _, _, rfl, hF.out, hx⟩
end Go.Proofs.Ytencdgmcpnbfcaa
