/-
  Regions that draw their order, walked once in the order of the text: what is read lies in old blocks, what is called may make new ones; a forced tail may write.
-/
import Derived.Test.YtlfljlhppigejabWords
import Derived.BigQuiet
import Derived.StillTail
namespace Go.Proofs.Ytlfljlhppigejab
open Go.RowKit

/-- A world in which all old blocks of v are as they were. -/
structure Cw (v : World) where
  w : World
  below : Below v.heap.size v w
theorem Cw.ne (v : World) : Nonempty (Cw v) := ⟨⟨v, Below.refl _ _⟩⟩
theorem Cw.cell {v : World} (x : Cw v) (b o : Nat) (h : b < v.heap.size) : x.w.cell? ⟨b, o, none⟩ = v.cell? ⟨b, o, none⟩ := x.below.cell (p := ⟨b, o, none⟩) h
theorem Cw.frozen {v : World} (x : Cw v) (b o : Nat) (h : b < v.heap.size) : x.w.frozen? ⟨b, o, none⟩ = v.frozen? ⟨b, o, none⟩ := x.below.frozen (p := ⟨b, o, none⟩) h
theorem Cw.le {v : World} (x : Cw v) : v.heap.size ≤ x.w.heap.size := x.below.size
/-- The class of such worlds. -/
def In (v : World) (w' : World) : Prop := ∃ x : Cw v, w' = x.w

/-- A call that makes new blocks alone. -/
theorem Calls.cw {P : Program} {f : FuncId} {args : Array Value} {v : World} {x : Cw v} {r : Value}
    (h : Calls P f args x.w fun e w' => e = .returned r ∧ Below x.w.heap.size x.w w') : Calls P f args x.w fun e w' => e = .returned r ∧ ∃ y : Cw v, w' = y.w :=
  h.mono fun _ w' ⟨he, hb⟩ => ⟨he, ⟨w', x.below.trans (hb.mono x.le)⟩, rfl⟩
/-- A call that leaves all as it is. -/
theorem Calls.cw_same {P : Program} {f : FuncId} {args : Array Value} {v : World} {x : Cw v} {r : Value}
    (h : Calls P f args x.w fun e w' => e = .returned r ∧ x.w = w') : Calls P f args x.w fun e w' => e = .returned r ∧ ∃ y : Cw v, w' = y.w :=
  h.mono fun _ _ ⟨he, hb⟩ => ⟨he, x, hb.symm⟩
theorem Calls.cw_same' {P : Program} {f : FuncId} {args : Array Value} {v : World} {x : Cw v} {r : Value}
    (h : Calls P f args x.w fun e w' => e = .returned r ∧ w' = x.w) : Calls P f args x.w fun e w' => e = .returned r ∧ ∃ y : Cw v, w' = y.w :=
  h.mono fun _ _ ⟨he, hb⟩ => ⟨he, x, hb⟩

section
variable {P : Program}
/-- A region all of whose operations read, or call what makes new blocks alone. -/
theorem region_cw {id : Nat} {Q : Exit → Act → World → Prop} {a : Act} {w : World} {l : List Oper} (hm : P.follows .mixedOrders = true) (hB : Region.lexB .any l.toArray = true)
    (h : wpQuiet P l.toArray (fun w' => ∃ x : Cw w, w' = x.w) (fun a' => ∀ w', Below w.heap.size w w' → Q .normal a' w') l a) : (Code.region id l.toArray true).wp P Q a w := by
  refine wp_region_quiet (C := fun w' => ∃ x : Cw w, w' = x.w) hm hB ⟨⟨_, (Below.refl _ _).drew⟩, rfl⟩ ?_
  have : (fun a' => ∀ w', (∃ x : Cw w, w' = x.w) → Q .normal a' w') = (fun a' => ∀ w', Below w.heap.size w w' → Q .normal a' w') := by
    funext a'
    apply propext
    exact ⟨fun h w' hb => h w' ⟨⟨w', hb⟩, rfl⟩, fun h w' ⟨x, hx⟩ => by rw [hx]; exact h _ x.below⟩
  rw [this]
  simpa using h

/-! ### A head that reads and calls, then a forced tail -/
variable {ops : Array Oper} {C : World → Prop}
def wpHead (P : Program) (ops : Array Oper) (C : World → Prop) (n : Nat) (L : Array Bool → Act → Prop) : Nat → Array Bool → Act → Prop
  | 0, d, a => L d a
  | f + 1, d, a => Region.ready .any ops d ≠ [] ∧ ∀ i ∈ Region.ready .any ops d, i < n ∧ qOp P ops C i (wpHead P ops C n L f (d.setIfInBounds i true)) a

theorem any_of_head {n g : Nat} {L : Array Bool → Act → Prop} {Q : Exit → Act → World → Prop} (hL : ∀ d a w, C w → L d a → wpAny P .any ops Q g d a w) (f : Nat) :
    ∀ (d : Array Bool) (a : Act) (w : World), C w → wpHead P ops C n L f d a → wpAny P .any ops Q (f + g) d a w := by
  induction f with
  | zero => intro d a w hw h; rw [Nat.zero_add]; exact hL _ _ _ hw h
  | succ f ih =>
    intro d a w hw h
    rw [Nat.add_right_comm]
    exact ⟨fun e => absurd e h.1, fun i hi => wpOp_of_qOp hw (fun a' w' hw' h' => ih _ a' w' hw' h') (h.2 i hi).2⟩

theorem head_first {n i : Nat} {oi : Oper} {v : Value} {L : Array Bool → Act → Prop} (hi : ops[i]? = some oi) (hsel : Region.noSelect ops = true) (hs : Region.sinkB .any ops n = true) (hc : Region.chainB .any ops n = true)
    (hn : n < ops.size) (hin : i < n) (hdone : ∀ d a, L d a → ∀ j ∈ Region.ready .any ops d, n ≤ j) (f : Nat) :
    ∀ (d : Array Bool) (a : Act), HeadInv .any ops n d → (∀ j oj, ops[j]? = some oj → j ≠ i → d.getD j true = false → (∀ e ∈ oj.after, Region.binds .any e = true → e.on ≠ i) → oi.apart ops oj = true) →
      i ∈ Region.ready .any ops d → YieldsIn P ops C oi v a → wpHead P ops C n L f (d.setIfInBounds i true) (a.put oi.dst v) → wpHead P ops C n L (f + 1) d a := by
  have hsl := Region.noSelect_spec hsel
  induction f with
  | zero =>
    intro d a inv _ hr hy H
    refine ⟨fun h => List.ne_nil_of_mem hr h, fun j hj => ?_⟩
    have hjn : j < n := Nat.lt_of_not_le fun h => tail_waits hs hc hn inv _ i rfl hin (mem_ready.1 hr).1 j h hj
    refine ⟨hjn, ?_⟩
    by_cases hji : j = i
    · cases hji; exact hy.qOp hi H
    · exact absurd (hdone _ _ H j (ready_mono hj hji)) (Nat.not_le_of_lt hjn)
  | succ f ih =>
    intro d a inv hfree hr hy H
    refine ⟨fun h => List.ne_nil_of_mem hr h, fun j hj => ?_⟩
    have hjn : j < n := Nat.lt_of_not_le fun h => tail_waits hs hc hn inv _ i rfl hin (mem_ready.1 hr).1 j h hj
    refine ⟨hjn, ?_⟩
    by_cases hji : j = i
    · cases hji; exact hy.qOp hi H
    · obtain ⟨hjun, oj, hoj, hall⟩ := mem_ready.1 hj
      have hnot : ∀ e ∈ oj.after, Region.binds .any e = true → e.on ≠ i := by
        intro e he hb heq
        have h1 := hall e he hb
        rw [heq, getD_both (mem_ready.1 hr).1] at h1
        cases h1
      have h2 := qOp_put hoj (hfree j oj hoj hji hjun hnot) (fun cs b => hsl i oi cs b hi) (fun cs b => hsl j oj cs b hoj) hy (H.2 j (ready_mono hj hji)).2
      refine qOp_mono (fun a' h3 => ih (d.setIfInBounds j true) a' (inv.set hj hjn) ?_ (ready_mono hr (Ne.symm hji)) h3.1 ?_) h2
      · intro k ok hk hki hun hno
        refine hfree k ok hk hki ?_ hno
        by_cases hjk : j = k
        · cases hjk; exact hjun
        · rwa [getD_set_ne true hjk] at hun
      · rw [Array.setIfInBounds_comm _ _ hji]
        exact h3.2

theorem head_lex {n g : Nat} {Lq : Act → Prop} (hsel : Region.noSelect ops = true) (hs : Region.sinkB .any ops n = true) (hc : Region.chainB .any ops n = true) (hn : n < ops.size) (l : List Oper) :
    ∀ (k : Nat) (d : Array Bool) (a : Act), (∀ j, j < l.length → l[j]? = ops[k + j]?) → k + l.length = n → HeadInv .any ops n d → Region.lexHead .any ops g l.length k d = true → wpQuiet P ops C Lq l a →
    wpHead P ops C n (fun d' a' => Region.seqB .any ops g n d' = true ∧ Lq a') l.length d a := by
  induction l with
  | nil =>
    intro k d a _ hk _ hB h
    have hkn : k = n := by simpa using hk
    cases hkn
    exact ⟨by simpa [Region.lexHead] using hB, h⟩
  | cons o l ih =>
    intro k d a hl hk inv hB h
    have h0 : ops[k]? = some o := by simpa using (hl 0 (by simp)).symm
    simp only [List.length_cons, Region.lexHead, Bool.and_eq_true] at hB
    have hkn : k < n := by simp only [List.length_cons] at hk; omega
    have hr' : k ∈ Region.ready .any ops d := by simpa using hB.1.1
    have hst : qOp P ops C k (wpQuiet P ops C Lq l) a := by unfold qOp; simp only [h0]; exact h
    obtain ⟨v, hy, hK⟩ := yieldsIn_of_qOp h0 hst
    refine head_first h0 hsel hs hc hn hkn (fun d' a' hL => seqB_ready hL.1) l.length d a inv (Region.free_spec h0 hB.1.2) hr' hy ?_
    refine ih (k + 1) _ _ (fun j hj => ?_) (by simp only [List.length_cons] at hk; omega) (inv.set hr' hkn) hB.2 hK
    have := hl (j + 1) (by simp; omega)
    simpa [Nat.add_assoc, Nat.add_comm 1 j] using this

/-- The first n operations read, or call what makes new blocks alone; the others come in the text's order. -/
theorem region_cw_tail {id : Nat} {Q : Exit → Act → World → Prop} {a : Act} {w : World} {l : List Oper} (n : Nat) (hm : P.follows .mixedOrders = true) (hB : Region.lexTailB .any l.toArray n = true)
    (h : wpQuiet P l.toArray (fun w' => ∃ x : Cw w, w' = x.w) (fun a' => ∀ w', Below w.heap.size w w' → wpList P l.toArray Q (l.drop n) a' w') (l.take n) a) : (Code.region id l.toArray true).wp P Q a w := by
  simp only [Region.lexTailB, Bool.and_eq_true, decide_eq_true_eq] at hB
  obtain ⟨⟨⟨⟨hsel, hn⟩, hs⟩, hc⟩, hlex⟩ := hB
  have hn' : n < l.length := by simpa using hn
  have htl : (l.take n).length = n := by simp; omega
  have hdl : (l.drop n).length = l.toArray.size - n := by simp
  have inv0 : HeadInv .any l.toArray n (Array.replicate l.toArray.size false) :=
    ⟨by simp, fun j oj _ hl => (by rw [getD_replicate_false] at hl; cases hl), fun t _ ht => getD_in (by simpa using ht) (getD_replicate_false _ _)⟩
  have H := head_lex (g := l.toArray.size - n) (C := fun w' => ∃ x : Cw w, w' = x.w) hsel hs hc hn (l.take n) 0 _ a (fun j hj => by
    have hj' : j < n := by rw [htl] at hj; exact hj
    simp [hj']) (by simpa using htl) inv0 (by rw [htl]; exact hlex) h
  refine wp_region_any hm ?_
  have := any_of_head (C := fun w' => ∃ x : Cw w, w' = x.w) (Q := Q) (g := l.toArray.size - n) (fun d a' w' hw hL => by
    obtain ⟨x, rfl⟩ := hw
    have := wpAny_of_seq (md := .any) (Q' := Q) (l.drop n) n d a' x.w (fun j => by simp [List.getElem?_drop]) (by rw [hdl]; exact hL.1) (hL.2 _ x.below)
    rwa [hdl] at this) _ _ _ { w with drawn := w.drawn + 1 } ⟨⟨_, (Below.refl _ _).drew⟩, rfl⟩ H
  rw [htl, show n + (l.toArray.size - n) = l.toArray.size by omega] at this
  exact this
end
end Go.Proofs.Ytlfljlhppigejab
