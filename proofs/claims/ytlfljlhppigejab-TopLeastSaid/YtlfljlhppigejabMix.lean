/-
  Regions that draw their order, read and call, make and write memory, and end with a forced tail: walked once, in an order of the prover's choice.
-/
import Derived.Test.YtlfljlhppigejabStores
namespace Go.Proofs.Ytlfljlhppigejab
open Go.RowKit

/-- A class of worlds within I; new blocks may come at any time. -/
structure Cli (I : World → Prop) where
  C : World → Prop
  sub : ∀ w, C w → I w
  cl : ∀ w w', C w → Below w.heap.size w w' → C w'

section
variable {P : Program} {ops : Array Oper} {I : World → Prop}
def qAtI (P : Program) (I : World → Prop) (o : Oper) (a : Act) (v : Value) : Prop := ∀ w, I w → qUp P w v ((execOp a.eval o).run P w)
def qOneI (P : Program) (I : World → Prop) (o : Oper) (a : Act) (K : Act → Prop) : Prop := ∃ v, qAtI P I o a v ∧ K (a.put o.dst v)
def qOpI (P : Program) (ops : Array Oper) (I : World → Prop) (i : Nat) (K : Act → Prop) (a : Act) : Prop :=
  match ops[i]? with
  | none => K a
  | some o => if Region.wanted o (yielded ops a.tmps) then qOneI P I o a K else K (a.put o.dst undef)
def YI (P : Program) (ops : Array Oper) (I : World → Prop) (o : Oper) (v : Value) (a : Act) : Prop :=
  (Region.wanted o (yielded ops a.tmps) = true ∧ qAtI P I o a v) ∨ (Region.wanted o (yielded ops a.tmps) = false ∧ v = undef)
theorem YI.op {i : Nat} {o : Oper} {v : Value} {a : Act} (hi : ops[i]? = some o) (hy : YI P ops I o v a) {K : Act → Prop} (h : K (a.put o.dst v)) : qOpI P ops I i K a := by
  unfold qOpI
  rw [hi]
  dsimp only
  rcases hy with ⟨h1, h2⟩ | ⟨h1, rfl⟩
  · rw [if_pos h1]; exact ⟨v, h2, h⟩
  · rw [if_neg (by rw [h1]; exact Bool.false_ne_true)]; exact h
theorem YI.same {o : Oper} {v : Value} {a a' : Act} (hy : YI P ops I o v a) (he : execOp a'.eval o = execOp a.eval o) (hw : Region.wanted o (yielded ops a'.tmps) = Region.wanted o (yielded ops a.tmps)) : YI P ops I o v a' := by
  unfold YI qAtI at *
  rw [he, hw]
  exact hy
/-- An operation that writes: into which class, with which value. -/
def effI (P : Program) (ops : Array Oper) {I : World → Prop} (o : Oper) (a : Act) (C : Cli I) (K : Act → Cli I → Prop) : Prop :=
  Region.wanted o (yielded ops a.tmps) = true ∧ ∃ (ι : Type) (val : ι → Value) (D : ι → Cli I),
    (∀ w, C.C w → ∃ i w', ((execOp a.eval o).run P w = .ok (.value (val i)) w' ∨ (execOp a.eval o).run P w = .ok .skip w' ∧ val i = undef) ∧ (D i).C w') ∧ ∀ i, K (a.put o.dst (val i)) (D i)

def wpM (P : Program) (ops : Array Oper) {I : World → Prop} (n : Nat) (L : Array Bool → Act → Cli I → Prop) : Nat → Array Bool → Act → Cli I → Prop
  | 0, d, a, C => L d a C
  | f + 1, d, a, C => Region.ready .any ops d ≠ [] ∧ ∀ i ∈ Region.ready .any ops d, i < n ∧
    (qOpI P ops I i (fun a' => wpM P ops n L f (d.setIfInBounds i true) a' C) a ∨ ∃ o, ops[i]? = some o ∧ effI P ops o a C (fun a' C' => wpM P ops n L f (d.setIfInBounds i true) a' C'))

theorem any_of_M {n g : Nat} {L : Array Bool → Act → Cli I → Prop} {Q : Exit → Act → World → Prop} (hL : ∀ d a C w, C.C w → L d a C → wpAny P .any ops Q g d a w) (f : Nat) :
    ∀ (d : Array Bool) (a : Act) (C : Cli I) (w : World), C.C w → wpM P ops n L f d a C → wpAny P .any ops Q (f + g) d a w := by
  induction f with
  | zero => intro d a C w hw h; rw [Nat.zero_add]; exact hL _ _ _ _ hw h
  | succ f ih =>
    intro d a C w hw h
    rw [Nat.add_right_comm]
    refine ⟨fun e => absurd e h.1, fun i hi => ?_⟩
    rcases (h.2 i hi).2 with h1 | ⟨o, h1, h2, ι, val, D, h3, h4⟩
    · unfold qOpI at h1
      unfold wpOp
      split
      · rename_i h0; rw [h0] at h1; exact ih _ _ _ _ hw h1
      · rename_i o h0
        rw [h0] at h1
        dsimp only at h1
        split
        · rename_i hq
          rw [if_pos hq] at h1
          obtain ⟨v, h2, h3⟩ := h1
          left
          have h4 := h2 w (C.sub w hw)
          unfold Oper.wp
          generalize (execOp a.eval o).run P w = r at *
          cases r with
          | ok x w' =>
            cases x <;> simp only [qUp] at h4 <;> simp only [Oper.upon]
            case value u => obtain ⟨e1, e2⟩ := h4; rw [e1, e2]; exact ih _ _ _ _ hw h3
            case skip => obtain ⟨e1, e2⟩ := h4; rw [e1, ← e2]; exact ih _ _ _ _ hw h3
            case enter g args =>
              obtain ⟨e1, hc⟩ := h4
              rw [e1]
              exact hc.mono fun e w'' ⟨he, hb⟩ => by subst he; exact ih _ _ _ _ (C.cl w w'' hw hb) h3
          | halt x w' => simp only [qUp] at h4
        · rename_i hq
          rw [if_neg hq] at h1
          exact ih _ _ _ _ hw h1
    · unfold wpOp
      rw [h1]
      dsimp only
      rw [if_pos h2]
      left
      obtain ⟨j, w', h5, h6⟩ := h3 w hw
      unfold Oper.wp
      rcases h5 with h5 | ⟨h5, h7⟩
      · rw [h5]; exact ih _ _ _ _ h6 (h4 j)
      · rw [h5]
        simp only [Oper.upon]
        rw [← h7]
        exact ih _ _ _ _ h6 (h4 j)

theorem M_first {n i : Nat} {oi : Oper} {v : Value} {L : Array Bool → Act → Cli I → Prop} (hi : ops[i]? = some oi) (hsel : Region.noSelect ops = true) (hs : Region.sinkB .any ops n = true) (hc : Region.chainB .any ops n = true)
    (hn : n < ops.size) (hin : i < n) (hdone : ∀ d a C, L d a C → ∀ j ∈ Region.ready .any ops d, n ≤ j) (f : Nat) :
    ∀ (d : Array Bool) (a : Act) (C : Cli I), HeadInv .any ops n d → (∀ j oj, ops[j]? = some oj → j ≠ i → d.getD j true = false → (∀ e ∈ oj.after, Region.binds .any e = true → e.on ≠ i) → oi.apart ops oj = true) →
      i ∈ Region.ready .any ops d → YI P ops I oi v a → wpM P ops n L f (d.setIfInBounds i true) (a.put oi.dst v) C → wpM P ops n L (f + 1) d a C := by
  have hsl := Region.noSelect_spec hsel
  induction f with
  | zero =>
    intro d a C inv _ hr hy H
    refine ⟨fun h => List.ne_nil_of_mem hr h, fun j hj => ?_⟩
    have hjn : j < n := Nat.lt_of_not_le fun h => tail_waits hs hc hn inv _ i rfl hin (mem_ready.1 hr).1 j h hj
    refine ⟨hjn, ?_⟩
    by_cases hji : j = i
    · cases hji; exact Or.inl (hy.op hi H)
    · exact absurd (hdone _ _ _ H j (ready_mono hj hji)) (Nat.not_le_of_lt hjn)
  | succ f ih =>
    intro d a C inv hfree hr hy H
    refine ⟨fun h => List.ne_nil_of_mem hr h, fun j hj => ?_⟩
    have hjn : j < n := Nat.lt_of_not_le fun h => tail_waits hs hc hn inv _ i rfl hin (mem_ready.1 hr).1 j h hj
    refine ⟨hjn, ?_⟩
    by_cases hji : j = i
    · cases hji; exact Or.inl (hy.op hi H)
    · obtain ⟨hjun, oj, hoj, hall⟩ := mem_ready.1 hj
      have hnot : ∀ e ∈ oj.after, Region.binds .any e = true → e.on ≠ i := by
        intro e he hb heq
        have h1 := hall e he hb
        rw [heq, getD_both (mem_ready.1 hr).1] at h1
        cases h1
      obtain ⟨p1, p2, p3⟩ := Oper.apart_spec (hfree j oj hoj hji hjun hnot)
      have hfree' : ∀ k ok, ops[k]? = some ok → k ≠ i → (d.setIfInBounds j true).getD k true = false → (∀ e ∈ ok.after, Region.binds .any e = true → e.on ≠ i) → oi.apart ops ok = true := by
        intro k ok hk hki hun hno
        refine hfree k ok hk hki ?_ hno
        by_cases hjk : j = k
        · cases hjk; exact hjun
        · rwa [getD_set_ne true hjk] at hun
      have keep : ∀ u, YI P ops I oi v (a.put oj.dst u) := fun u => hy.same (execOp_put oi (fun cs b => hsl i oi cs b hi) a oj.dst u p3) (wanted_put oi a oj.dst u p3)
      have go : ∀ u (C' : Cli I), wpM P ops n L f ((d.setIfInBounds i true).setIfInBounds j true) ((a.put oi.dst v).put oj.dst u) C' → wpM P ops n L (f + 1) (d.setIfInBounds j true) (a.put oj.dst u) C' := by
        intro u C' hu
        refine ih _ _ _ (inv.set hj hjn) hfree' (ready_mono hr (Ne.symm hji)) (keep u) ?_
        rw [Array.setIfInBounds_comm _ _ hji, ← Act.put_comm a v u p2]
        exact hu
      rcases (H.2 j (ready_mono hj hji)).2 with h1 | ⟨o, ho, h2, ι, val, D, h3, h4⟩
      · left
        unfold qOpI at h1 ⊢
        rw [hoj] at h1 ⊢
        dsimp only at h1 ⊢
        rw [wanted_put oj a oi.dst v p1] at h1
        split
        · rename_i hq
          rw [if_pos hq] at h1
          obtain ⟨u, hu, hn⟩ := h1
          refine ⟨u, ?_, go u C hn⟩
          unfold qAtI at hu ⊢
          rwa [execOp_put oj (fun cs b => hsl j oj cs b hoj) a oi.dst v p1] at hu
        · rename_i hq
          rw [if_neg hq] at h1
          exact go undef C h1
      · right
        obtain rfl : o = oj := Option.some.inj (ho.symm.trans hoj)
        refine ⟨o, hoj, by rw [← wanted_put o a oi.dst v p1]; exact h2, ι, val, D, ?_, fun k => go _ _ (h4 k)⟩
        rwa [execOp_put o (fun cs b => hsl j o cs b hoj) a oi.dst v p1] at h3

/-- The steps, in the order chosen: true: one that writes. -/
def wpMix (P : Program) (ops : Array Oper) {I : World → Prop} (L : Act → Cli I → Prop) : List (Bool × Oper) → Act → Cli I → Prop
  | [], a, C => L a C
  | (false, o) :: r, a, C => if Region.wanted o (yielded ops a.tmps) then qOneI P I o a (fun a' => wpMix P ops L r a' C) else wpMix P ops L r (a.put o.dst undef) C
  | (true, o) :: r, a, C => effI P ops o a C (fun a' C' => wpMix P ops L r a' C')
theorem mix_nil {L : Act → Cli I → Prop} {a : Act} {C : Cli I} (h : L a C) : wpMix P ops L [] a C := h
theorem mix_read {L : Act → Cli I → Prop} {a : Act} {C : Cli I} {o : Oper} {r : List (Bool × Oper)} (h : ∀ K : Act → Prop, (∀ a, wpMix P ops L r a C → K a) → if Region.wanted o (yielded ops a.tmps) then qOneI P I o a K else K (a.put o.dst undef)) :
    wpMix P ops L ((false, o) :: r) a C := h _ (fun _ h => h)
theorem mix_write {L : Act → Cli I → Prop} {a : Act} {C : Cli I} {o : Oper} {r : List (Bool × Oper)} {ι : Type} (val : ι → Value) (D : ι → Cli I) (hw : Region.wanted o (yielded ops a.tmps) = true)
    (h : ∀ w, C.C w → ∃ i w', ((execOp a.eval o).run P w = .ok (.value (val i)) w' ∨ (execOp a.eval o).run P w = .ok .skip w' ∧ val i = undef) ∧ (D i).C w') (hk : ∀ i, wpMix P ops L r (a.put o.dst (val i)) (D i)) : wpMix P ops L ((true, o) :: r) a C :=
  ⟨hw, ι, val, D, h, hk⟩

def mixB (ops : Array Oper) (n g : Nat) : List (Bool × Nat) → Array Bool → Bool
  | [], d => Region.seqB .any ops g n d
  | (false, j) :: r, d => decide (j < n) && (Region.ready .any ops d).contains j && Region.free .any ops d j && mixB ops n g r (d.setIfInBounds j true)
  | (true, j) :: r, d => decide (j < n) && (Region.ready .any ops d == [j]) && mixB ops n g r (d.setIfInBounds j true)

def stepsOf (ops : Array Oper) (s : List (Bool × Nat)) : List (Bool × Oper) := s.filterMap fun x => (ops[x.2]?).map fun o => (x.1, o)

theorem M_mix {n g : Nat} {L : Act → Cli I → Prop} (hsel : Region.noSelect ops = true) (hs : Region.sinkB .any ops n = true) (hc : Region.chainB .any ops n = true) (hn : n < ops.size) (s : List (Bool × Nat)) :
    ∀ (d : Array Bool) (a : Act) (C : Cli I), HeadInv .any ops n d → mixB ops n g s d = true → wpMix P ops L (stepsOf ops s) a C →
      wpM P ops n (fun d' a' C' => Region.seqB .any ops g n d' = true ∧ L a' C') s.length d a C := by
  induction s with
  | nil => intro d a C _ hB h; exact ⟨hB, h⟩
  | cons x s ih =>
    obtain ⟨b, j⟩ := x
    intro d a C inv hB h
    cases b with
    | false =>
      simp only [mixB, Bool.and_eq_true, decide_eq_true_eq] at hB
      obtain ⟨⟨⟨hjn, hr⟩, hf⟩, hB'⟩ := hB
      have hr' : j ∈ Region.ready .any ops d := by simpa using hr
      obtain ⟨o, h0⟩ : ∃ o, ops[j]? = some o := ⟨_, Array.getElem?_eq_getElem (by omega)⟩
      have hst : stepsOf ops ((false, j) :: s) = (false, o) :: stepsOf ops s := by simp [stepsOf, h0]
      rw [hst] at h
      unfold wpMix at h
      by_cases hw : Region.wanted o (yielded ops a.tmps) = true
      · rw [if_pos hw] at h
        obtain ⟨v, h1, h2⟩ := h
        exact M_first h0 hsel hs hc hn hjn (fun d' a' C' hL => seqB_ready hL.1) s.length d a C inv (Region.free_spec h0 hf) hr' (Or.inl ⟨hw, h1⟩) (ih _ _ _ (inv.set hr' hjn) hB' h2)
      · rw [if_neg hw] at h
        exact M_first h0 hsel hs hc hn hjn (fun d' a' C' hL => seqB_ready hL.1) s.length d a C inv (Region.free_spec h0 hf) hr' (Or.inr ⟨by simpa using hw, rfl⟩) (ih _ _ _ (inv.set hr' hjn) hB' h)
    | true =>
      simp only [mixB, Bool.and_eq_true, decide_eq_true_eq, beq_iff_eq] at hB
      obtain ⟨⟨hjn, hr⟩, hB'⟩ := hB
      obtain ⟨o, h0⟩ : ∃ o, ops[j]? = some o := ⟨_, Array.getElem?_eq_getElem (by omega)⟩
      have hst : stepsOf ops ((true, j) :: s) = (true, o) :: stepsOf ops s := by simp [stepsOf, h0]
      rw [hst] at h
      unfold wpMix at h
      obtain ⟨hw, ι, val, D, h3, h4⟩ := h
      have hr' : j ∈ Region.ready .any ops d := by rw [hr]; simp
      refine ⟨fun e => (by rw [hr] at e; cases e), fun i hi => ?_⟩
      rw [hr] at hi
      obtain rfl : i = j := by simpa using hi
      exact ⟨hjn, Or.inr ⟨o, h0, hw, ι, val, D, h3, fun k => ih _ _ _ (inv.set hr' hjn) hB' (h4 k)⟩⟩

/-- **The region.** n: where the forced tail begins; s: the order chosen of what comes ahead of it. -/
theorem region_mix {id : Nat} {Q : Exit → Act → World → Prop} {a : Act} {w : World} {l : List Oper} (n : Nat) (s : List (Bool × Nat)) (C0 : Cli I) (h0 : C0.C w.drew) (hm : P.follows .mixedOrders = true)
    (hB : (Region.noSelect l.toArray && decide (n < l.length) && Region.sinkB .any l.toArray n && Region.chainB .any l.toArray n && decide (s.length = n) && mixB l.toArray n (l.length - n) s (Array.replicate l.length false)) = true)
    (h : wpMix P l.toArray (fun a' C' => ∀ w', C'.C w' → wpList P l.toArray Q (l.drop n) a' w') (stepsOf l.toArray s) a C0) : (Code.region id l.toArray true).wp P Q a w := by
  simp only [Bool.and_eq_true, decide_eq_true_eq] at hB
  obtain ⟨⟨⟨⟨⟨hsel, hn⟩, hs⟩, hc⟩, hsl⟩, hmix⟩ := hB
  have hn' : n < l.toArray.size := by simpa using hn
  have inv0 : HeadInv .any l.toArray n (Array.replicate l.length false) :=
    ⟨by simp, fun j oj _ hl => (by rw [getD_replicate_false] at hl; cases hl), fun t _ ht => getD_in (by simpa using ht) (getD_replicate_false _ _)⟩
  have H := M_mix (P := P) (g := l.length - n) hsel hs hc hn' s _ a C0 inv0 hmix h
  refine wp_region_any hm ?_
  have hdl : (l.drop n).length = l.length - n := by simp
  have := any_of_M (Q := Q) (g := l.length - n) (fun d a' C' w' hw hL => by
    have := wpAny_of_seq (md := .any) (Q' := Q) (l.drop n) n d a' w' (fun j => by simp [List.getElem?_drop]) (by rw [hdl]; exact hL.1) (hL.2 _ hw)
    rwa [hdl] at this) _ _ _ _ { w with drawn := w.drawn + 1 } h0 H
  rw [hsl, show n + (l.length - n) = l.length by omega] at this
  simpa using this
end
end Go.Proofs.Ytlfljlhppigejab
