/- The plain functions that the program computes: curves. -/
import Derived.Test.YtencdgmcpnbfcaaArith
namespace Go.Proofs.Ytencdgmcpnbfcaa
/-- the first one that is not 0 -/
def firstL : List Int → Int
  | [] => 0
  | e :: l => if e = 0 then firstL l else e
theorem firstL_drop (es : List Int) (k : Nat) (hk : k < es.length) : firstL (es.drop k) = if es.getD k 0 = 0 then firstL (es.drop (k + 1)) else es.getD k 0 := by
  rw [List.drop_eq_getElem_cons hk, firstL]
  simp [List.getD_eq_getElem?_getD, hk]
theorem first_found {es : List Int} {k : Nat} (h : firstL es = firstL (es.drop k)) (hk : k < es.length) (hne : (es[k] != 0) = true) : es[k] = firstL es := by
  rw [h, firstL_drop es k hk]
  simp at hne
  simp [List.getD_eq_getElem?_getD, hk, hne]
theorem first_next {es : List Int} {k : Nat} (h : firstL es = firstL (es.drop k)) (hk : k < es.length) (hne : (es[k] != 0) = false) : firstL es = firstL (es.drop (k + 1)) := by
  rw [h, firstL_drop es k hk]
  simp at hne
  simp [List.getD_eq_getElem?_getD, hk, hne]
theorem first_end {es : List Int} {k : Nat} (h : firstL es = firstL (es.drop k)) (hk : ¬ k < es.length) : 0 = firstL es := by
  rw [h, List.drop_of_length_le (by omega)]; rfl
def withinL (n a b : Int) : Int := if n < a ∨ b < n then 3 else 0
structure PCell where
  tab : List (Int × Int)
  light : Int
  drop : Int
  deriving Inhabited
def tblE (fst : Bool) (b p : Int × Int) : Int := firstL [withinL p.1 0 100, withinL p.2 0 200, if (fst = true ∧ p.1 ≠ 0) ∨ p.1 ≤ b.1 ∨ b.2 < p.2 then 11 else 0]
def tblGo (fst : Bool) (b : Int × Int) : List (Int × Int) → Int
  | [] => if b.2 ≠ 0 then 32 else 0
  | p :: l => if tblE fst b p = 0 then tblGo false p l else tblE fst b p
def checkTableL (ps : List (Int × Int)) : Int := if ps.length < 2 then 16 else if 8 < ps.length then 5 else tblGo true (-1, 200) ps
def tblPrev (ps : List (Int × Int)) (k : Nat) : Int × Int := if k = 0 then (-1, 200) else ps.getD (k - 1) (0, 0)
theorem tbl_step {ps : List (Int × Int)} {k : Nat} {b p : Int × Int} (hk : k < ps.length) (hp : ps.getD k (0, 0) = p) :
    tblGo (k == 0) b (ps.drop k) = if tblE (k == 0) b p = 0 then tblGo false p (ps.drop (k + 1)) else tblE (k == 0) b p := by
  rw [List.drop_eq_getElem_cons hk, tblGo]
  have : ps[k] = p := by rw [← hp]; simp [List.getD_eq_getElem?_getD, hk]
  rw [this]
theorem tbl_ret {ps : List (Int × Int)} {k : Nat} {b p : Int × Int} {e : Int} (h0 : checkTableL ps = tblGo true (-1, 200) ps) (h1 : tblGo true (-1, 200) ps = tblGo (k == 0) b (ps.drop k)) (hk : k < ps.length)
    (hp : ps.getD k (0, 0) = p) (hE : tblE (k == 0) b p = e) (hne : (e != 0) = true) : e = checkTableL ps := by
  rw [h0, h1, tbl_step hk hp, hE, if_neg (by simpa using hne)]
theorem tbl_next {ps : List (Int × Int)} {k : Nat} {b p : Int × Int} {e : Int} (h1 : tblGo true (-1, 200) ps = tblGo (k == 0) b (ps.drop k)) (hk : k < ps.length)
    (hp : ps.getD k (0, 0) = p) (hE : tblE (k == 0) b p = e) (hne : (e != 0) = false) : tblGo true (-1, 200) ps = tblGo (k + 1 == 0) p (ps.drop (k + 1)) := by
  rw [h1, tbl_step hk hp, hE, if_pos (by simpa using hne)]; rfl
theorem tblPrev_next {ps : List (Int × Int)} {k : Nat} {p : Int × Int} (hp : ps.getD k (0, 0) = p) : tblPrev ps (k + 1) = p := by
  simp only [tblPrev]; rw [if_neg (by omega)]; simpa using hp
def checkCellL (c : PCell) : Int := firstL [checkTableL c.tab, withinL c.light 0 1000, withinL c.drop 0 10]
def checkChainL (cs : List PCell) : Int :=
  if cs.length = 0 then 12 else if 8 < cs.length then 5 else firstL (cs.map checkCellL)
def checkFieldL (f : List (List PCell)) : Int :=
  if f.length = 0 then 12 else if 6 < f.length then 5 else firstL (f.map checkChainL)
structure TabOk (ps : List (Int × Int)) : Prop where
  two : 2 ≤ ps.length
  eight : ps.length ≤ 8
  x0 : ∀ i, i < ps.length → 0 ≤ (ps.getD i (0, 0)).1
  x1 : ∀ i, i < ps.length → (ps.getD i (0, 0)).1 ≤ 100
  y0 : ∀ i, i < ps.length → 0 ≤ (ps.getD i (0, 0)).2
  y1 : ∀ i, i < ps.length → (ps.getD i (0, 0)).2 ≤ 200
  inc : ∀ i, i + 1 < ps.length → (ps.getD i (0, 0)).1 < (ps.getD (i + 1) (0, 0)).1
  dec : ∀ i, i + 1 < ps.length → (ps.getD (i + 1) (0, 0)).2 ≤ (ps.getD i (0, 0)).2
  first : (ps.getD 0 (0, 0)).1 = 0
  last : (ps.getD (ps.length - 1) (0, 0)).2 = 0
def curGo (volt : Int) (a : Int × Int) : List (Int × Int) → Int
  | [] => 0
  | b :: l => if a.2 = 0 ∧ b.2 = 0 then 0 else if volt < b.1 then a.2 + (b.2 - a.2) * (volt - a.1) / (b.1 - a.1) else curGo volt b l
def tabCurL (ps : List (Int × Int)) (volt : Int) : Int := curGo volt (ps.getD 0 (0, 0)) (ps.drop 1)
/-- The rest of a table behind a point. -/
def Chained : Int × Int → List (Int × Int) → Prop
  | _, [] => True
  | a, b :: l => a.1 < b.1 ∧ b.2 ≤ a.2 ∧ 0 ≤ b.2 ∧ Chained b l
theorem chained_of (ps : List (Int × Int)) (ok : TabOk ps) : ∀ (n j : Nat), ps.length - (j + 1) = n → j < ps.length → Chained (ps.getD j (0, 0)) (ps.drop (j + 1))
  | 0, j, h, hj => by rw [List.drop_of_length_le (by omega)]; trivial
  | n + 1, j, h, hj => by
    have hlt : j + 1 < ps.length := by omega
    rw [List.drop_eq_getElem_cons hlt, show ps[j + 1] = ps.getD (j + 1) (0, 0) from by simp [List.getD_eq_getElem?_getD, hlt]]
    exact ⟨ok.inc j hlt, ok.dec j hlt, ok.y0 _ hlt, chained_of ps ok n (j + 1) (by omega) hlt⟩
theorem slope (a2 b2 v a1 b1 : Int) (h1 : a1 ≤ v) (h2 : v < b1) (h3 : b2 ≤ a2) : b2 ≤ a2 + (b2 - a2) * (v - a1) / (b1 - a1) ∧ a2 + (b2 - a2) * (v - a1) / (b1 - a1) ≤ a2 := by
  have hd : 0 < b1 - a1 := by omega
  have k1 : (b2 - a2) * (v - a1) ≤ 0 := Int.mul_nonpos_of_nonpos_of_nonneg (by omega) (by omega)
  have k2 : (b2 - a2) * (b1 - a1) ≤ (b2 - a2) * (v - a1) := by
    have := Int.mul_le_mul_of_nonneg_left (show v - a1 ≤ b1 - a1 by omega) (show 0 ≤ a2 - b2 by omega)
    have e1 : (b2 - a2) * (b1 - a1) = -((a2 - b2) * (b1 - a1)) := by rw [← Int.neg_mul]; congr 1; omega
    have e2 : (b2 - a2) * (v - a1) = -((a2 - b2) * (v - a1)) := by rw [← Int.neg_mul]; congr 1; omega
    omega
  have l1 := (Int.le_ediv_iff_mul_le hd).2 k2
  have l2 : (b2 - a2) * (v - a1) / (b1 - a1) ≤ 0 := by
    have := Int.ediv_le_ediv hd k1
    simpa using this
  omega
theorem curGo_bound (v : Int) : ∀ (l : List (Int × Int)) (a : Int × Int), Chained a l → a.1 ≤ v → 0 ≤ a.2 → 0 ≤ curGo v a l ∧ curGo v a l ≤ a.2
  | [], a, _, _, ha => by simp [curGo, ha]
  | b :: l, a, ⟨h1, h2, h3, h4⟩, hv, ha => by
    simp only [curGo]
    split
    · omega
    · split
      · have := slope a.2 b.2 v a.1 b.1 hv (by omega) h2
        omega
      · have := curGo_bound v l b h4 (by omega) h3
        omega
theorem tabCurL_bound {ps : List (Int × Int)} (ok : TabOk ps) {v : Int} (hv : 0 ≤ v) : 0 ≤ tabCurL ps v ∧ tabCurL ps v ≤ 200 := by
  have h2 := ok.two
  have h := curGo_bound v _ _ (chained_of ps ok _ 0 rfl (by omega)) (by rw [ok.first]; exact hv) (ok.y0 0 (by omega))
  have := ok.y1 0 (by omega)
  simp only [Nat.zero_add] at h
  unfold tabCurL
  omega
structure CellOk (c : PCell) : Prop where
  tab : TabOk c.tab
  l0 : 0 ≤ c.light
  l1 : c.light ≤ 1000
  d0 : 0 ≤ c.drop
  d1 : c.drop ≤ 10
def curL (c : PCell) (v : Int) : Int := (tabCurL c.tab v * c.light) / 1000
theorem curL_bound {c : PCell} (ok : CellOk c) {v : Int} (hv : 0 ≤ v) : 0 ≤ curL c v ∧ curL c v ≤ 200 := by
  have h := tabCurL_bound ok.tab hv
  have h0 := ok.l0
  have h1 := ok.l1
  have k1 : 0 ≤ tabCurL c.tab v * c.light := Int.mul_nonneg h.1 h0
  have k2 : tabCurL c.tab v * c.light ≤ 200 * 1000 := Int.mul_le_mul h.2 h1 h0 (by omega)
  unfold curL
  omega
theorem take_map_snoc {α β : Type} (f : α → β) (xs : List α) (k : Nat) (d : α) (hk : k < xs.length) : (xs.take (k + 1)).map f = (xs.take k).map f ++ [f (xs.getD k d)] := by
  rw [List.take_add_one, List.getElem?_eq_getElem hk, List.map_append]
  simp [List.getD_eq_getElem?_getD, hk]
/-- the greatest voltage from m down at which a cell carries a current -/
def voltGo (c : PCell) (n : Int) : Nat → Int × Bool
  | 0 => if n ≤ curL c 0 then (0, true) else (-c.drop, false)
  | m + 1 => if n ≤ curL c ((m + 1 : Nat) : Int) then (((m + 1 : Nat) : Int), true) else voltGo c n m
def lastT (ps : List (Int × Int)) : Int := (ps.getD (ps.length - 1) (0, 0)).1
def lastL (c : PCell) : Int := lastT c.tab
def voltL (c : PCell) (n : Int) : Int × Bool := voltGo c n (lastL c).toNat
theorem voltGo_bound {c : PCell} (ok : CellOk c) (n : Int) : ∀ m : Nat, -10 ≤ (voltGo c n m).1 ∧ (voltGo c n m).1 ≤ m
  | 0 => by have := ok.d0; have := ok.d1; simp only [voltGo]; split <;> simp <;> omega
  | m + 1 => by
    have := voltGo_bound ok n m
    simp only [voltGo]; split
    · simp only; omega
    · omega
theorem lastL_bound {c : PCell} (ok : CellOk c) : 0 ≤ lastL c ∧ lastL c ≤ 100 := by
  have := ok.tab.two
  exact ⟨ok.tab.x0 _ (by omega), ok.tab.x1 _ (by omega)⟩
theorem volt_step (c : PCell) (n m : Int) (hm : 0 ≤ m) : voltGo c n m.toNat = if n ≤ curL c m then (m, true) else if m - 1 < 0 then (-c.drop, false) else voltGo c n (m - 1).toNat := by
  obtain ⟨k, rfl⟩ := Int.eq_ofNat_of_zero_le hm
  rw [Int.toNat_natCast]
  cases k with
  | zero => simp [voltGo]
  | succ k =>
    rw [voltGo, if_neg (show ¬ ((k + 1 : Nat) : Int) - 1 < 0 by omega), show (((k + 1 : Nat) : Int) - 1).toNat = k by omega]
theorem voltL_bound {c : PCell} (ok : CellOk c) (n : Int) : -10 ≤ (voltL c n).1 ∧ (voltL c n).1 ≤ 100 := by
  have h := lastL_bound ok
  have := voltGo_bound ok n (lastL c).toNat
  unfold voltL
  omega
def chainVoltL (cs : List PCell) (n : Int) : Int := (cs.map fun c => (voltL c n).1).sum
theorem sum_snoc (l : List Int) (x : Int) : (l ++ [x]).sum = l.sum + x := by
  induction l with
  | nil => simp
  | cons a l ih => simp only [List.cons_append, List.sum_cons, ih]; omega
theorem chainVolt_bound (cs : List PCell) (ok : ∀ c ∈ cs, CellOk c) (n : Int) : -10 * cs.length ≤ chainVoltL cs n ∧ chainVoltL cs n ≤ 100 * cs.length := by
  induction cs with
  | nil => simp [chainVoltL]
  | cons c cs ih =>
    have h1 := ih (fun x hx => ok x (by simp [hx]))
    have h2 := voltL_bound (ok c (by simp)) n
    simp only [chainVoltL, List.map_cons, List.sum_cons, List.length_cons] at *
    omega
/-- 'voltGo' from a place that may be -1. -/
def goI (c : PCell) (n p : Int) : Int × Bool := if p < 0 then (-c.drop, false) else voltGo c n p.toNat
theorem voltGo_skip (c : PCell) (n : Int) (q : Nat) : ∀ m : Nat, q ≤ m → (∀ v : Nat, q < v → v ≤ m → curL c v < n) → voltGo c n m = voltGo c n q
  | 0, hq, _ => by rw [show q = 0 by omega]
  | m + 1, hq, h => by
    by_cases e : q = m + 1
    · rw [e]
    · have h1 := h (m + 1) (by omega) (Nat.le_refl _)
      rw [voltGo, if_neg (by omega)]
      exact voltGo_skip c n q m (by omega) (fun v a b => h v a (by omega))
theorem voltGo_none (c : PCell) (n : Int) : ∀ m : Nat, (∀ v : Nat, v ≤ m → curL c v < n) → voltGo c n m = (-c.drop, false)
  | 0, h => by have := h 0 (Nat.le_refl _); rw [voltGo, if_neg (by simpa using this)]
  | m + 1, h => by
    have := h (m + 1) (Nat.le_refl _)
    rw [voltGo, if_neg (by omega)]
    exact voltGo_none c n m (fun v hv => h v (by omega))
/-- What the search has found. -/
theorem voltGo_found (c : PCell) (n : Int) : ∀ m : Nat, ((voltGo c n m).2 = true ∧ ∃ q : Nat, q ≤ m ∧ (voltGo c n m).1 = q ∧ n ≤ curL c q ∧ ∀ v : Nat, q < v → v ≤ m → curL c v < n) ∨ (voltGo c n m = (-c.drop, false) ∧ ∀ v : Nat, v ≤ m → curL c v < n)
  | 0 => by
    by_cases h : n ≤ curL c 0
    · exact .inl ⟨by rw [voltGo, if_pos h], 0, Nat.le_refl _, by rw [voltGo, if_pos h]; rfl, h, fun v a b => by omega⟩
    · exact .inr ⟨by rw [voltGo, if_neg h], fun v hv => by rw [show v = 0 by omega]; simpa using Int.not_le.1 h⟩
  | m + 1 => by
    by_cases h : n ≤ curL c ((m + 1 : Nat) : Int)
    · exact .inl ⟨by rw [voltGo, if_pos h], m + 1, Nat.le_refl _, by rw [voltGo, if_pos h], h, fun v a b => by omega⟩
    · rw [voltGo, if_neg h]
      rcases voltGo_found c n m with ⟨h1, q, hq, h2, h3, h4⟩ | ⟨h1, h2⟩
      · exact .inl ⟨h1, q, by omega, h2, h3, fun v a b => by
          by_cases e : v = m + 1
          · subst e; omega
          · exact h4 v a (by omega)⟩
      · exact .inr ⟨h1, fun v hv => by
          by_cases e : v = m + 1
          · subst e; omega
          · exact h2 v (by omega)⟩
/-- A greater current is carried no further: the search goes on where it stood. -/
theorem goI_next (c : PCell) (n p : Int) (L : Nat) (hp : -1 ≤ p) (hL : p ≤ L) (h : goI c n p = voltGo c n L) (hend : p < 0 ∨ n ≤ curL c p) : goI c (n + 1) p = voltGo c (n + 1) L := by
  rcases voltGo_found c n L with ⟨h1, q, hq, h2, h3, h4⟩ | ⟨h1, h2⟩
  · by_cases hneg : p < 0
    · rw [goI, if_pos hneg] at h
      rw [← h] at h1; cases h1
    · obtain ⟨k, rfl⟩ := Int.eq_ofNat_of_zero_le (show 0 ≤ p by omega)
      rw [goI, if_neg hneg, Int.toNat_natCast] at *
      have hk : voltGo c n k = ((k : Int), true) := by
        cases k with
        | zero => rw [voltGo, if_pos (by simpa using hend)]; rfl
        | succ k => rw [voltGo, if_pos (hend.resolve_left (by omega))]
      have hqk : q = k := by
        rw [← h, hk] at h2
        simp at h2; omega
      subst hqk
      exact (voltGo_skip c (n + 1) q L hq (fun v a b => by have := h4 v a b; omega)).symm
  · rw [voltGo_none c (n + 1) L (fun v hv => by have := h2 v hv; omega)]
    by_cases hneg : p < 0
    · rw [goI, if_pos hneg]
    · obtain ⟨k, rfl⟩ := Int.eq_ofNat_of_zero_le (show 0 ≤ p by omega)
      rw [goI, if_neg hneg, Int.toNat_natCast]
      exact voltGo_none c (n + 1) k (fun v hv => by have := h2 v (by omega); omega)
theorem goI_step (c : PCell) (n p : Int) (hp : 0 ≤ p) (h : curL c p < n) : goI c n p = goI c n (p - 1) := by
  rw [goI, if_neg (by omega), volt_step c n p hp, if_neg (by omega)]; rfl
theorem goI_here (c : PCell) (n p : Int) (hp : 0 ≤ p) (h : n ≤ curL c p) : goI c n p = (p, true) := by
  rw [goI, if_neg (by omega), volt_step c n p hp, if_pos h]
theorem chainVolt_snoc (cs : List PCell) (n : Int) (k : Nat) (hk : k < cs.length) : chainVoltL (cs.take (k + 1)) n = chainVoltL (cs.take k) n + (voltL (cs.getD k default) n).1 := by
  simp only [chainVoltL, take_map_snoc _ cs k default hk, sum_snoc]

/-- the greatest number from m down at which F is at least v, or -1 -/
def findL (F : Int → Int) (v : Int) : Nat → Int
  | 0 => if v ≤ F 0 then 0 else -1
  | m + 1 => if v ≤ F ((m + 1 : Nat) : Int) then ((m + 1 : Nat) : Int) else findL F v m
def findI (F : Int → Int) (v p : Int) : Int := if p < 0 then -1 else findL F v p.toNat
theorem find_step (F : Int → Int) (v m : Int) (hm : 0 ≤ m) : findI F v m = if v ≤ F m then m else findI F v (m - 1) := by
  obtain ⟨k, rfl⟩ := Int.eq_ofNat_of_zero_le hm
  rw [findI, if_neg (by omega), Int.toNat_natCast]
  cases k with
  | zero => simp [findL, findI]
  | succ k => rw [findL, findI, if_neg (show ¬ ((k + 1 : Nat) : Int) - 1 < 0 by omega), show (((k + 1 : Nat) : Int) - 1).toNat = k by omega]
theorem findI_bound (F : Int → Int) (v p : Int) (hp : -1 ≤ p) : -1 ≤ findI F v p ∧ findI F v p ≤ p := by
  obtain ⟨n, hn⟩ : ∃ n : Nat, (p + 1).toNat = n := ⟨_, rfl⟩
  induction n generalizing p with
  | zero => rw [findI, if_pos (by omega)]; omega
  | succ n ih =>
    rw [find_step F v p (by omega)]
    split
    · omega
    · have := ih (p - 1) (by omega) (by omega); omega
theorem findI_eq (F : Int → Int) (v p : Int) (hp : -1 ≤ p) : (findI F v p = -1 ∨ v ≤ F (findI F v p)) ∧ ∀ x, findI F v p < x → x ≤ p → F x < v := by
  obtain ⟨n, hn⟩ : ∃ n : Nat, (p + 1).toNat = n := ⟨_, rfl⟩
  induction n generalizing p with
  | zero => rw [findI, if_pos (by omega)]; exact ⟨.inl rfl, fun x a b => by omega⟩
  | succ n ih =>
    rw [find_step F v p (by omega)]
    split
    · rename_i h; exact ⟨.inr h, fun x a b => by omega⟩
    · rename_i h
      have := ih (p - 1) (by omega) (by omega)
      exact ⟨this.1, fun x a b => by
        by_cases e : x = p
        · subst e; omega
        · exact this.2 x a (by omega)⟩
/-- A greater bound is met no further. -/
theorem findI_next (F : Int → Int) (v p q : Int) (hp : -1 ≤ p) (hq : p ≤ q) (h : findI F v p = findI F v q) (hend : p < 0 ∨ v ≤ F p) : findI F (v + 1) p = findI F (v + 1) q := by
  have e1 : findI F v p = p := by
    rcases hend with h0 | h0
    · rw [findI, if_pos h0]; omega
    · by_cases hn : p < 0
      · rw [findI, if_pos hn]; omega
      · rw [find_step F v p (by omega), if_pos h0]
  have hs := (findI_eq F v q (by omega)).2
  rw [← h, e1] at hs
  obtain ⟨n, hn⟩ : ∃ n : Nat, (q - p).toNat = n := ⟨_, rfl⟩
  clear h
  induction n generalizing q with
  | zero => rw [show q = p by omega]
  | succ n ih =>
    rw [find_step F (v + 1) q (by omega), if_neg (by have := hs q (by omega) (Int.le_refl _); omega)]
    exact ih (q - 1) (by omega) (fun x a b => hs x a (by omega)) (by omega)
/-- the current of a chain at a voltage -/
def curAt (cs : List PCell) (v : Int) : Int := max 0 (findI (chainVoltL cs) v 200)
theorem curAt_bound (cs : List PCell) (v : Int) : 0 ≤ curAt cs v ∧ curAt cs v ≤ 200 := by
  have := findI_bound (chainVoltL cs) v 200 (by omega)
  unfold curAt; omega
def currentsL (cs : List PCell) (n : Nat) : List Int := (List.range n).map fun v : Nat => curAt cs v
def fieldCur (f : List (List PCell)) (v : Int) : Int := (f.map fun cs => curAt cs v).sum
def curveL (f : List (List PCell)) (n : Nat) : List Int := (List.range n).map fun v : Nat => fieldCur f v
theorem fieldCur_bound (f : List (List PCell)) (v : Int) : 0 ≤ fieldCur f v ∧ fieldCur f v ≤ 200 * f.length := by
  induction f with
  | nil => simp [fieldCur]
  | cons c f ih =>
    have := curAt_bound c v
    simp only [fieldCur, List.map_cons, List.sum_cons, List.length_cons] at *
    omega
theorem fieldCur_snoc (f : List (List PCell)) (v : Int) (k : Nat) (hk : k < f.length) : fieldCur (f.take (k + 1)) v = fieldCur (f.take k) v + curAt (f.getD k []) v := by
  simp only [fieldCur, take_map_snoc _ f k [] hk, sum_snoc]
/-- What the map of a chain's voltages holds when some currents have been counted for one more cell. -/
def voltsF (cs : List PCell) (k : Nat) (n y : Int) : Int := if 0 ≤ y ∧ y ≤ 200 then (if y < n then chainVoltL (cs.take (k + 1)) y else chainVoltL (cs.take k) y) else 0
theorem voltsF_next (cs : List PCell) (k : Nat) (n : Int) (hk : k < cs.length) (h0 : 0 ≤ n) (h1 : n ≤ 200) (d : Int) (hd : d = (voltL (cs.getD k default) n).1) :
    (fun y => if y = n then voltsF cs k n n + d else voltsF cs k n y) = voltsF cs k (n + 1) := by
  subst hd
  funext y
  simp only [voltsF]
  by_cases e : y = n
  · subst e
    rw [if_pos rfl, if_pos ⟨h0, h1⟩, if_neg (by omega), if_pos ⟨h0, h1⟩, if_pos (by omega), chainVolt_snoc cs y k hk]
  · rw [if_neg e]
    by_cases h : 0 ≤ y ∧ y ≤ 200
    · rw [if_pos h, if_pos h]
      by_cases h2 : y < n
      · rw [if_pos h2, if_pos (by omega)]
      · rw [if_neg h2, if_neg (by omega)]
    · rw [if_neg h, if_neg h]
theorem voltsF_end (cs : List PCell) (k : Nat) : voltsF cs k 201 = voltsF cs (k + 1) 0 := by
  funext y
  simp only [voltsF]
  by_cases h : 0 ≤ y ∧ y ≤ 200
  · rw [if_pos h, if_pos h, if_pos (by omega), if_neg (by omega)]
  · rw [if_neg h, if_neg h]
theorem voltsF_zero (cs : List PCell) : voltsF cs 0 0 = fun _ => 0 := by
  funext y
  simp only [voltsF, List.take_zero, chainVoltL]
  split
  · split
    · omega
    · simp
  · rfl
theorem voltsF_bound (cs : List PCell) (ok : ∀ c ∈ cs, CellOk c) (hl : cs.length ≤ 8) (k : Nat) (n y : Int) : -80 ≤ voltsF cs k n y ∧ voltsF cs k n y ≤ 800 := by
  have b : ∀ j, -80 ≤ chainVoltL (cs.take j) y ∧ chainVoltL (cs.take j) y ≤ 800 := fun j => by
    have := chainVolt_bound (cs.take j) (fun c hc => ok c (List.mem_of_mem_take hc)) y
    have h2 := List.length_take_le j cs
    have h3 : (cs.take j).length ≤ 8 := by rw [List.length_take]; omega
    omega
  have h1 := b k
  have h2 := b (k + 1)
  simp only [voltsF]
  split
  · split <;> omega
  · omega
theorem getD_set_same (xs : List Int) (i : Nat) (v d : Int) (h : i < xs.length) : (xs.set i v).getD i d = v := by simp [List.getD_eq_getElem?_getD, h]
theorem getD_set_ne (xs : List Int) (i j : Nat) (v d : Int) (h : i ≠ j) : (xs.set i v).getD j d = xs.getD j d := by simp [List.getD_eq_getElem?_getD, List.getElem?_set_ne h]
theorem ext_getD (xs ys : List Int) (hl : xs.length = ys.length) (h : ∀ i, i < xs.length → xs.getD i 0 = ys.getD i 0) : xs = ys := by
  apply List.ext_getElem hl
  intro i h1 h2
  have := h i h1
  simpa [List.getD_eq_getElem?_getD, h1, h2] using this
theorem withinL_zero {n a b : Int} : withinL n a b = 0 ↔ a ≤ n ∧ n ≤ b := by unfold withinL; split <;> omega
theorem firstL_two {a b : Int} : firstL [a, b] = 0 ↔ a = 0 ∧ b = 0 := by
  simp only [firstL]; split
  · split <;> simp_all
  · simp_all
theorem firstL_three {a b c : Int} : firstL [a, b, c] = 0 ↔ a = 0 ∧ b = 0 ∧ c = 0 := by
  simp only [firstL]; split
  · split
    · split <;> simp_all
    · simp_all
  · simp_all
structure TabUpto (ps : List (Int × Int)) (k : Nat) : Prop where
  x0 : ∀ i, i < k → 0 ≤ (ps.getD i (0, 0)).1
  x1 : ∀ i, i < k → (ps.getD i (0, 0)).1 ≤ 100
  y0 : ∀ i, i < k → 0 ≤ (ps.getD i (0, 0)).2
  y1 : ∀ i, i < k → (ps.getD i (0, 0)).2 ≤ 200
  inc : ∀ i, i + 1 < k → (ps.getD i (0, 0)).1 < (ps.getD (i + 1) (0, 0)).1
  dec : ∀ i, i + 1 < k → (ps.getD (i + 1) (0, 0)).2 ≤ (ps.getD i (0, 0)).2
  first : 0 < k → (ps.getD 0 (0, 0)).1 = 0
theorem TabUpto.zero (ps : List (Int × Int)) : TabUpto ps 0 := ⟨fun _ h => by omega, fun _ h => by omega, fun _ h => by omega, fun _ h => by omega, fun _ h => by omega, fun _ h => by omega, fun h => by omega⟩
theorem lt_snoc {P : Nat → Prop} {k : Nat} (h : ∀ i, i < k → P i) (hk : P k) : ∀ i, i < k + 1 → P i := fun i hi => by
  by_cases e : i = k
  · rw [e]; exact hk
  · exact h i (by omega)
theorem TabUpto.next {ps : List (Int × Int)} {k : Nat} (h : TabUpto ps k) (hx : withinL (ps.getD k (0, 0)).1 0 100 = 0) (hy : withinL (ps.getD k (0, 0)).2 0 200 = 0) (h0 : k = 0 → (ps.getD k (0, 0)).1 = 0)
    (h1 : ∀ j, k = j + 1 → (ps.getD j (0, 0)).1 < (ps.getD k (0, 0)).1 ∧ (ps.getD k (0, 0)).2 ≤ (ps.getD j (0, 0)).2) : TabUpto ps (k + 1) := by
  rw [withinL_zero] at hx hy
  refine ⟨lt_snoc h.x0 hx.1, lt_snoc h.x1 hx.2, lt_snoc h.y0 hy.1, lt_snoc h.y1 hy.2, fun i hi => ?_, fun i hi => ?_, fun _ => ?_⟩
  · by_cases e : k = i + 1
    · rw [← e]; exact (h1 i e).1
    · exact h.inc i (by omega)
  · by_cases e : k = i + 1
    · rw [← e]; exact (h1 i e).2
    · exact h.dec i (by omega)
  · by_cases e : k = 0
    · have := h0 e; rwa [e] at this
    · exact h.first (by omega)
theorem TabUpto.done {ps : List (Int × Int)} (h : TabUpto ps ps.length) (h2 : 2 ≤ ps.length) (h8 : ps.length ≤ 8) (hl : (ps.getD (ps.length - 1) (0, 0)).2 = 0) : TabOk ps :=
  ⟨h2, h8, h.x0, h.x1, h.y0, h.y1, h.inc, h.dec, h.first (by omega), hl⟩
theorem voltL_zero {c : PCell} (ok : CellOk c) : voltL c 0 = (lastL c, true) := by
  have h := lastL_bound ok
  obtain ⟨L, hL⟩ := Int.eq_ofNat_of_zero_le h.1
  unfold voltL
  rw [hL, Int.toNat_natCast]
  have := (curL_bound ok (v := (L : Int)) (by omega)).1
  cases L with
  | zero => rw [voltGo, if_pos (by simpa using this)]; rfl
  | succ k => rw [voltGo, if_pos this]
def maxGo (m : Int) : List Int → Int
  | [] => m
  | x :: l => maxGo (max m x) l
def maxL (xs : List Int) : Int := maxGo (xs.getD 0 0) (xs.drop 1)
theorem maxGo_drop (m : Int) (xs : List Int) (k : Nat) (hk : k < xs.length) : maxGo m (xs.drop k) = maxGo (max m (xs.getD k 0)) (xs.drop (k + 1)) := by
  rw [List.drop_eq_getElem_cons hk, maxGo]
  simp [List.getD_eq_getElem?_getD, hk]
theorem maxGo_le : ∀ (l : List Int) (m : Int), m ≤ maxGo m l ∧ ∀ x ∈ l, x ≤ maxGo m l
  | [], m => ⟨Int.le_refl _, fun x hx => by cases hx⟩
  | y :: l, m => by
    have ⟨h1, h2⟩ := maxGo_le l (max m y)
    refine ⟨by simp only [maxGo]; omega, fun x hx => ?_⟩
    simp only [maxGo]
    rcases List.mem_cons.1 hx with rfl | hx
    · omega
    · exact h2 x hx
theorem maxGo_mem : ∀ (l : List Int) (m : Int), maxGo m l = m ∨ maxGo m l ∈ l
  | [], m => .inl rfl
  | y :: l, m => by
    simp only [maxGo]
    rcases maxGo_mem l (max m y) with h | h
    · rw [h]
      by_cases e : m ≤ y
      · right; rw [show max m y = y by omega]; exact List.mem_cons_self
      · left; omega
    · exact .inr (List.mem_cons_of_mem _ h)
theorem maxL_spec (xs : List Int) (h : 0 < xs.length) : maxL xs ∈ xs ∧ ∀ x ∈ xs, x ≤ maxL xs := by
  cases xs with
  | nil => simp at h
  | cons y l =>
    have ⟨h1, h2⟩ := maxGo_le l y
    have h3 := maxGo_mem l y
    show maxGo y l ∈ y :: l ∧ ∀ x ∈ y :: l, x ≤ maxGo y l
    refine ⟨?_, fun x hx => ?_⟩
    · rcases h3 with h3 | h3
      · rw [h3]; exact List.mem_cons_self
      · exact List.mem_cons_of_mem _ h3
    · rcases List.mem_cons.1 hx with rfl | hx
      · exact h1
      · exact h2 x hx
def FieldOk' (f : List (List PCell)) : Prop := 1 ≤ f.length ∧ f.length ≤ 6 ∧ ∀ cs ∈ f, 1 ≤ cs.length ∧ cs.length ≤ 8 ∧ ∀ c ∈ cs, CellOk c
def endL (f : List (List PCell)) : Int := maxL (f.map fun cs => chainVoltL cs 0)
theorem chainVolt0_bound (cs : List PCell) (ok : ∀ c ∈ cs, CellOk c) : 0 ≤ chainVoltL cs 0 ∧ chainVoltL cs 0 ≤ 100 * cs.length := by
  induction cs with
  | nil => simp [chainVoltL]
  | cons c cs ih =>
    have h1 := ih (fun x hx => ok x (by simp [hx]))
    have h2 := lastL_bound (ok c (by simp))
    have h3 := voltL_zero (ok c (by simp))
    simp only [chainVoltL, List.map_cons, List.sum_cons, List.length_cons, h3] at *
    omega
theorem endL_bound {f : List (List PCell)} (ok : FieldOk' f) : 0 ≤ endL f ∧ endL f ≤ 800 := by
  obtain ⟨h1, _, h2⟩ := ok
  have := (maxL_spec (f.map fun cs => chainVoltL cs 0) (by simp; omega)).1
  obtain ⟨cs, hcs, e⟩ := List.mem_map.1 this
  have hb := chainVolt0_bound cs (h2 cs hcs).2.2
  have := (h2 cs hcs).2.1
  unfold endL
  omega
theorem withinL_ok {n a b : Int} (h1 : a ≤ n) (h2 : n ≤ b) : withinL n a b = 0 := withinL_zero.2 ⟨h1, h2⟩
theorem tblGo_ok (ps : List (Int × Int)) (ok : TabOk ps) : ∀ (n k : Nat), ps.length - k = n → k ≤ ps.length → tblGo (k == 0) (tblPrev ps k) (ps.drop k) = 0
  | 0, k, h, hk => by
    have h2 := ok.two
    rw [List.drop_of_length_le (by omega), tblGo, tblPrev, if_neg (by omega : ¬ k = 0), show k = ps.length by omega, ok.last]; simp
  | n + 1, k, h, hk => by
    have hlt : k < ps.length := by omega
    have hE : tblE (k == 0) (tblPrev ps k) (ps.getD k (0, 0)) = 0 := by
      unfold tblE
      rw [firstL_three]
      refine ⟨withinL_ok (ok.x0 k hlt) (ok.x1 k hlt), withinL_ok (ok.y0 k hlt) (ok.y1 k hlt), ?_⟩
      have b0 := ok.x0 k hlt
      have b1 := ok.y1 k hlt
      by_cases hk0 : k = 0
      · subst hk0
        have := ok.first
        rw [if_neg]
        simp only [tblPrev, if_true]
        omega
      · obtain ⟨j, rfl⟩ : ∃ j, k = j + 1 := ⟨k - 1, by omega⟩
        have i1 := ok.inc j hlt
        have i2 := ok.dec j hlt
        rw [if_neg]
        simp only [tblPrev, Nat.add_sub_cancel]
        rw [if_neg (by omega)]
        rintro (⟨h, _⟩ | h | h)
        · simp at h
        · omega
        · omega
    rw [tbl_step hlt rfl, hE, if_pos rfl]
    have := tblGo_ok ps ok n (k + 1) (by omega) hlt
    rwa [tblPrev_next rfl] at this
theorem checkTable_ok {ps : List (Int × Int)} (ok : TabOk ps) : checkTableL ps = 0 := by
  have h2 := ok.two
  have h8 := ok.eight
  rw [checkTableL, if_neg (by omega), if_neg (by omega)]
  exact tblGo_ok ps ok _ 0 rfl (by omega)
theorem checkCell_ok {c : PCell} (ok : CellOk c) : checkCellL c = 0 := by
  unfold checkCellL
  rw [firstL_three]
  exact ⟨checkTable_ok ok.tab, withinL_ok ok.l0 ok.l1, withinL_ok ok.d0 ok.d1⟩
theorem firstL_all (xs : List Int) (h : ∀ x ∈ xs, x = 0) : firstL xs = 0 := by
  induction xs with
  | nil => rfl
  | cons x xs ih =>
    rw [firstL, if_pos (h x (by simp))]
    exact ih (fun y hy => h y (by simp [hy]))
theorem checkChain_ok {cs : List PCell} (h1 : 1 ≤ cs.length) (h2 : cs.length ≤ 8) (ok : ∀ c ∈ cs, CellOk c) : checkChainL cs = 0 := by
  rw [checkChainL, if_neg (by omega), if_neg (by omega)]
  refine firstL_all _ fun x hx => ?_
  obtain ⟨c, hc, rfl⟩ := List.mem_map.1 hx
  exact checkCell_ok (ok c hc)
theorem checkField_ok {f : List (List PCell)} (ok : FieldOk' f) : checkFieldL f = 0 := by
  have h1 := ok.1
  have h2 := ok.2.1
  rw [checkFieldL, if_neg (by omega), if_neg (by omega)]
  refine firstL_all _ fun x hx => ?_
  obtain ⟨c, hc, rfl⟩ := List.mem_map.1 hx
  have := ok.2.2 c hc
  exact checkChain_ok this.1 this.2.1 this.2.2
end Go.Proofs.Ytencdgmcpnbfcaa
