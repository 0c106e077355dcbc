/- A statement whose order is drawn: the first operations only read and call what leaves old memory alone, each with one value in every world of a class; the last ones come in one order. One walk in the text's order serves every order. -/
import Derived.Test.YtencdgmcpnbfcaaBase
import Derived.StillTail
namespace Go.Proofs.Ytencdgmcpnbfcaa
open Go.RowKit

section
variable {P : Program} {C : World → Prop}

theorem wpAny_fuel {md : Region.Mode} {ops : Array Oper} {Q : Exit → Act → World → Prop} : ∀ (f : Nat) (listed : Array Bool) (a : Act) (w : World),
    wpAny P md ops Q f listed a w → wpAny P md ops Q (f + 1) listed a w
  | 0, _, _, _, h => ⟨fun _ => h.2, fun i hi => by rw [h.1] at hi; cases hi⟩
  | f + 1, _, _, _, h => ⟨h.1, fun i hi => wpOp_mono (fun a' w' h' => wpAny_fuel f _ a' w' h') (h.2 i hi)⟩

theorem wpAny_fuels {md : Region.Mode} {ops : Array Oper} {Q : Exit → Act → World → Prop} (g f : Nat) (listed : Array Bool) (a : Act) (w : World)
    (h : wpAny P md ops Q g listed a w) : wpAny P md ops Q (f + g) listed a w := by
  induction f with
  | zero => simpa using h
  | succ f ih => rw [show f + 1 + g = (f + g) + 1 by omega]; exact wpAny_fuel _ _ _ _ ih

/-- What the first n operations lean on lies among those before them. -/
def headB (l : List Oper) (n : Nat) : Bool :=
  (List.range n).all fun i => match l[i]? with
    | some o => (o.after.all fun e => !Region.binds .any e || decide (e.on < i)) && (match o.guard with | none => true | some (j, _) => decide (j < n))
    | none => false

theorem headB_spec {l : List Oper} {n i : Nat} (h : headB l n = true) (hi : i < n) : ∃ o, l[i]? = some o ∧ (∀ e ∈ o.after, Region.binds .any e = true → e.on < i) ∧ (∀ j b, o.guard = some (j, b) → j < n) := by
  have h1 := List.all_eq_true.1 h i (List.mem_range.2 hi)
  cases ho : l[i]? with
  | none => simp [ho] at h1
  | some o =>
    simp only [ho, Bool.and_eq_true] at h1
    refine ⟨o, rfl, fun e he hb => ?_, fun j b hg => ?_⟩
    · have := Array.all_eq_true_iff_forall_mem.1 h1.1 e he
      simpa [hb] using this
    · simpa [hg] using h1.2

theorem take_get {l : List Oper} {n i : Nat} (hi : i < n) : (l.take n).toArray[i]? = l.toArray[i]? := by simp [hi]

theorem getD_app {lh : Array Bool} {g j : Nat} (d : Bool) (hj : j < lh.size) : (lh ++ Array.replicate g false).getD j d = lh.getD j d := by
  simp [Array.getElem?_append_left hj]

theorem ready_head {l : List Oper} {n g i : Nat} {lh : Array Bool} (hB : headB l n = true) (hs : lh.size = n) (hi : i < n) :
    i ∈ Region.ready .any l.toArray (lh ++ Array.replicate g false) ↔ i ∈ Region.ready .any (l.take n).toArray lh := by
  obtain ⟨o, ho, hb, _⟩ := headB_spec hB hi
  rw [mem_ready, mem_ready, getD_app _ (by omega), take_get hi]
  refine and_congr_right fun _ => exists_congr fun o' => and_congr_right fun ho' => ?_
  have : o' = o := by
    have h1 : l.toArray[i]? = some o := by simpa using ho
    exact Option.some.inj (ho'.symm.trans h1)
  subst this
  exact ⟨fun h e he hbi => by have := h e he hbi; rwa [getD_app _ (by have := hb e he hbi; omega)] at this, fun h e he hbi => by rw [getD_app _ (by have := hb e he hbi; omega)]; exact h e he hbi⟩

theorem qOp_head {l : List Oper} {n i : Nat} {K : Act → Prop} {a : Act} (hB : headB l n = true) (hi : i < n) (h : qOp P (l.take n).toArray C i K a) : qOp P l.toArray C i K a := by
  obtain ⟨o, ho, _, hg⟩ := headB_spec hB hi
  unfold qOp at *
  rw [take_get hi] at h
  have h1 : l.toArray[i]? = some o := by simpa using ho
  simp only [h1] at *
  have hw : Region.wanted o (yielded l.toArray a.tmps) = Region.wanted o (yielded (l.take n).toArray a.tmps) := by
    unfold Region.wanted
    cases hgd : o.guard with
    | none => rfl
    | some p =>
      obtain ⟨j, b⟩ := p
      have hj := hg j b hgd
      simp only [yielded, take_get hj]
  rw [hw]
  exact h

theorem wpAny_head {l : List Oper} {n g : Nat} {Qh : Act → Prop} {Q : Exit → Act → World → Prop} (hB : headB l n = true) (hn : n < l.length) (hs : Region.sinkB .any l.toArray n = true) (hc : Region.chainB .any l.toArray n = true)
    (hQ : ∀ a w, C w → Qh a → wpAny P .any l.toArray Q g (Array.replicate n true ++ Array.replicate g false) a w) :
    ∀ (f : Nat) (lh : Array Bool) (a : Act) (w : World), lh.size = n → HeadInv .any l.toArray n (lh ++ Array.replicate g false) → C w →
      wpAnyQ P .any (l.take n).toArray C Qh f lh a → wpAny P .any l.toArray Q (f + g) (lh ++ Array.replicate g false) a w := by
  have full : ∀ lh : Array Bool, lh.size = n → Region.ready .any (l.take n).toArray lh = [] → lh = Array.replicate n true := by
    intro lh hsz h0
    have all : ∀ i, i < n → lh.getD i true = true := by
      intro i
      induction i using Nat.strongRecOn with
      | _ i ih =>
        intro hi
        cases hl : lh.getD i true with
        | true => rfl
        | false =>
          exfalso
          obtain ⟨o, ho, hb, _⟩ := headB_spec hB hi
          have : i ∈ Region.ready .any (l.take n).toArray lh := mem_ready.2 ⟨hl, o, by rw [take_get hi]; simpa using ho, fun e he hbi => by
            have h1 := hb e he hbi
            have h2 := ih e.on h1 (by omega)
            have : e.on < lh.size := by omega
            simp [this] at h2 ⊢
            exact h2⟩
          rw [h0] at this
          cases this
    apply Array.ext
    · simp [hsz]
    · intro i h1 h2
      have := all i (by omega)
      simp [h1] at this
      simp [this]
  intro f
  induction f with
  | zero =>
    intro lh a w hsz inv hC h
    rw [full lh hsz h.1, Nat.zero_add]
    exact hQ a w hC h.2
  | succ f ih =>
    intro lh a w hsz inv hC h
    cases h0 : Region.ready .any (l.take n).toArray lh with
    | nil =>
      have := full lh hsz h0
      rw [this]
      exact wpAny_fuels _ _ _ _ _ (hQ a w hC (h.1 h0))
    | cons i0 r0 =>
      have hi0 : i0 ∈ Region.ready .any (l.take n).toArray lh := by rw [h0]; exact List.mem_cons_self
      have hi0n : i0 < n := by
        obtain ⟨_, o, ho, _⟩ := mem_ready.1 hi0
        have := (Array.getElem?_eq_some_iff.1 ho).1
        simp at this
        omega
      have hun : (lh ++ Array.replicate g false).getD i0 true = false := by rw [getD_app _ (by omega)]; exact (mem_ready.1 hi0).1
      have low : ∀ j ∈ Region.ready .any l.toArray (lh ++ Array.replicate g false), j < n := fun j hj => by
        rcases Nat.lt_or_ge j n with h | h
        · exact h
        · exact absurd hj (tail_waits hs hc (by simpa using hn) inv _ i0 rfl hi0n hun j h)
      rw [show f + 1 + g = (f + g) + 1 by omega]
      refine ⟨fun he => ?_, fun j hj => ?_⟩
      · have := (ready_head (g := g) hB hsz hi0n).2 hi0
        rw [he] at this
        cases this
      · have hjn := low j hj
        have h1 := qOp_head hB hjn (h.2 j ((ready_head hB hsz hjn).1 hj))
        refine wpOp_of_qOp hC (fun a' w' hC' h' => ?_) h1
        have e : (lh ++ Array.replicate g false).setIfInBounds j true = lh.setIfInBounds j true ++ Array.replicate g false := by
          rw [Array.setIfInBounds_append_left (by omega)]
        rw [e]
        exact ih _ a' w' (by simpa using hsz) (by rw [← e]; exact inv.set hj hjn) hC' h'

/-- The look at a region, by program: its first n operations in any order, the rest in one. -/
def lookB (l : List Oper) (n : Nat) : Bool :=
  headB l n && decide (n < l.length) && Region.sinkB .any l.toArray n && Region.chainB .any l.toArray n && Region.noSelect (l.take n).toArray && Region.lexFrom .any (l.take n).toArray n 0 (Array.replicate n false) &&
  Region.seqB .any l.toArray (l.length - n) n (Array.replicate n true ++ Array.replicate (l.length - n) false)

theorem wp_region_tail {id : Nat} {Q : Exit → Act → World → Prop} {a : Act} {w : World} {l : List Oper} (n : Nat) (C : World → Prop) (hm : P.follows .mixedOrders = true) (hB : lookB l n = true) (hC : C w.drew)
    (h : wpQuiet P (l.take n).toArray C (fun a' => ∀ w', C w' → wpList P l.toArray Q (l.drop n) a' w') (l.take n) a) : (Code.region id l.toArray true).wp P Q a w := by
  simp only [lookB, Bool.and_eq_true, decide_eq_true_eq] at hB
  obtain ⟨⟨⟨⟨⟨⟨hh, hn⟩, hs⟩, hc⟩, hsel⟩, hlex⟩, hseq⟩ := hB
  refine wp_region_any hm ?_
  have htl : (l.take n).length = n := by simp; omega
  have hdl : (l.drop n).length = l.length - n := by simp
  have q := wpAnyQ_lex (P := P) (C := C) (md := .any) (Q := fun a' => ∀ w', C w' → wpList P l.toArray Q (l.drop n) a' w') hsel (l.take n) 0 (Array.replicate n false) a (by simp) (by rw [htl]; exact hlex) h
  rw [htl] at q
  have e : Array.replicate l.toArray.size false = Array.replicate n false ++ Array.replicate (l.length - n) false := by
    rw [Array.replicate_append_replicate, List.size_toArray, show n + (l.length - n) = l.length by omega]
  have inv : HeadInv .any l.toArray n (Array.replicate n false ++ Array.replicate (l.length - n) false) := by
    rw [← e]
    exact ⟨by simp, fun j oj _ hl => (by rw [getD_replicate_false] at hl; cases hl), fun t _ ht => getD_in (by simpa using ht) (getD_replicate_false _ _)⟩
  have := wpAny_head (g := l.length - n) (Q := Q) hh hn hs hc (fun a' w' hC' hq => by
    have := wpAny_of_seq (P := P) (md := .any) (ops := l.toArray) (Q' := Q) (l.drop n) n (Array.replicate n true ++ Array.replicate (l.length - n) false) a' w' (fun j => by simp [List.getElem?_drop]) (by rw [hdl]; exact hseq) (hq w' hC')
    rwa [hdl] at this) n (Array.replicate n false) a w.drew (by simp) inv hC q
  rw [e, List.size_toArray]
  rw [show n + (l.length - n) = l.length by omega] at this
  exact this

/-- The worlds that extend one. -/
def XW (w : World) : Type := { w' : World // Ext w w' }
instance (w : World) : Nonempty (XW w) := ⟨⟨w, Ext.refl w⟩⟩
abbrev XC (w : World) : World → Prop := fun w' => ∃ x : XW w, w' = x.1

theorem XW.call {f : FuncId} {args : Array Value} {w : World} {v : Value} (x : XW w) (h : Calls P f args x.1 fun e w' => e = .returned v ∧ Ext x.1 w') :
    Calls P f args x.1 fun e w'' => e = .returned v ∧ ∃ y : XW w, w'' = y.1 :=
  h.mono fun _ w' ⟨he, hx⟩ => ⟨he, ⟨w', x.2.trans hx⟩, rfl⟩
theorem XW.same {f : FuncId} {args : Array Value} {w : World} {v : Value} (x : XW w) (h : Calls P f args x.1 fun e w' => e = .returned v ∧ x.1 = w') :
    Calls P f args x.1 fun e w'' => e = .returned v ∧ ∃ y : XW w, w'' = y.1 :=
  h.mono fun _ _ ⟨he, hx⟩ => ⟨he, x, hx.symm⟩
theorem XW.cell {w : World} {b o : Nat} {v : Value} (h : w.cell? ⟨b, o, none⟩ = some v) (hb : b < w.heap.size) (x : XW w) : x.1.cell? ⟨b, o, none⟩ = some v := keep_ext x.2 hb h

theorem XW.cell_alloc {w : World} {b o : Nat} {v : Value} {ob : Obj} (h : w.cell? ⟨b, o, none⟩ = some v) (hb : b < w.heap.size) (x : XW (w.alloc ob)) : x.1.cell? ⟨b, o, none⟩ = some v :=
  keep_ext (Ext.trans ((Ext.refl w).alloc ob) x.2) hb h
theorem XW.cell_new {w : World} {o : Nat} {v : Value} {cs : Array Value} {T : TypeId} (h : cs[o]? = some v) (x : XW (w.alloc (.cells cs T))) : x.1.cell? ⟨w.heap.size, o, none⟩ = some v :=
  keep_ext x.2 (by simp) (by rw [World.cell?_alloc_at _ _ _ _ rfl]; exact h)

/-- The whole region, every operation so. -/
theorem wp_region_all {id : Nat} {Q : Exit → Act → World → Prop} {a : Act} {w : World} {l : List Oper} (C : World → Prop) (hm : P.follows .mixedOrders = true) (hB : Region.lexB .any l.toArray = true) (hC : C w.drew)
    (h : wpQuiet P l.toArray C (fun a' => ∀ w', C w' → Q .normal a' w') l a) : (Code.region id l.toArray true).wp P Q a w :=
  wp_region_quiet (C := C) hm hB hC (by simpa using h)
end
end Go.Proofs.Ytencdgmcpnbfcaa
