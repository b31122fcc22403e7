/-
  Stores, after which the walk goes on from any world of which so much is known. Regions that draw their order, read and call, make and write memory, and end with a forced tail: walked once, in an order of the prover's choice. What a row of units in memory becomes: copy within a row, one written anew; and as lists. Regions in which but some known blocks turn: classes of worlds, and the operations that write. Regions that draw their order and hold a call that writes: append beside such a call. A region that writes a block whole. Regions in which two operations that write may come in either order: a plan that forks.
-/
import Derived.Test.YtlfljlhppigejabPackBase
import Derived.Laws.IdiomCopy
import Derived.Deep.MidRow
import Derived.Test.YtlfljlhppigejabElderGame
import Derived.Deep.AppendLies
namespace Go.Proofs.Ytlfljlhppigejab
open Go.RowKit
section
variable {P : Program} {ops : Array Oper} {Q : Exit → Act → World → Prop}
theorem run_store1 {w : World} {b o : Nat} {ty : TypeId} {v : Value} (hc : (w.cell? ⟨b, o, none⟩).isSome = true) (hf : w.frozen? ⟨b, o, none⟩ = false) (h1 : v.oneCell' = true) (hi : (P.info? ty).map (·.size) = some 1) :
    (Instr.storeAt ty (.pointer (some ⟨b, o, none⟩)) v).run P w = .ok () (w.setCell ⟨b, o, none⟩ v) := by
  have hcl : v.cells = #[v] := by cases v <;> first | rfl | cases h1
  have hst := run_storeCells_cells (P := P) b o [v] 0 w (by intro j hj; obtain rfl : j = 0 := (by simpa using hj); simpa using hc) (by intro j hj; obtain rfl : j = 0 := (by simpa using hj); simpa using hf) (by intro x hx; obtain rfl : x = v := (by simpa using hx); exact h1)
  cases hq : P.info? ty with
  | none => simp [hq] at hi
  | some i =>
    have hs : i.size = 1 := by simpa [hq] using hi
    simp [Instr.storeAt, Instr.sureAddr, storeVar, sizeOf, typeInfo, hq, hs, hcl] at hst ⊢
    exact hst
theorem list_store1 {rest : List Oper} {op : Oper} {a : Act} {w : World} (b o : Nat) (v : Value) (ty : TypeId) (x y : Operand) (ho : op.op = .store ty x y) (hgd : op.guard = none) (hd : op.dst = none)
    (hx : a.eval x = .pointer (some ⟨b, o, none⟩)) (hy : a.eval y = v) (hc : (w.cell? ⟨b, o, none⟩).isSome = true) (hf : w.frozen? ⟨b, o, none⟩ = false) (h1 : v.oneCell' = true) (hi : (P.info? ty).map (·.size) = some 1)
    (R : World → Prop) (hR : R (w.setCell ⟨b, o, none⟩ v)) (h : ∀ W, R W → wpList P ops Q rest a W) : wpList P ops Q (op :: rest) a w :=
  wpList_plain hgd fun _ hK => by
    unfold Oper.wp execOp
    simp only [ho, hx, hy, Sem.run_bind, run_store1 hc hf h1 hi, Result.andThen_ok]
    have := hK _ _ (h _ hR)
    rw [show a = a.put op.dst undef from by rw [hd]; rfl] at this
    exact this
/-- A row in the middle of a block. -/
theorem list_storeM {rest : List Oper} {op : Oper} {a : Act} {w : World} (b o : Nat) (cs : Array Value) (ty : TypeId) (x y : Operand) (ho : op.op = .store ty x y) (hgd : op.guard = none) (hd : op.dst = none)
    (hx : a.eval x = .pointer (some ⟨b, o, none⟩)) (hy : a.eval y = .agg cs) (ht : w.there b o cs.size) (hi : (P.info? ty).map (·.size) = some cs.size) (h1 : cs.all (·.oneCell') = true)
    (R : World → Prop) (hR : R (w.setCells b o cs.toList)) (h : ∀ W, R W → wpList P ops Q rest a W) : wpList P ops Q (op :: rest) a w :=
  wpList_store_mid hgd ty x y ho b o cs hx hy ht hi h1 (by
    have := h _ hR
    rw [show a = a.put op.dst undef from by rw [hd]; rfl] at this
    exact this)
end
end Go.Proofs.Ytlfljlhppigejab
namespace Go.Proofs.Ytlfljlhppigejab
open Go.RowKit

/-- A class of worlds within I; new blocks may come at any time. -/
structure Cli (I : World → Prop) where
  C : World → Prop
  sub : ∀ w, C w → I w
  cl : ∀ w w', C w → Below w.heap.size w w' → C w'

section
variable {P : Program} {ops : Array Oper} {I : World → Prop}
def qAtI (P : Program) (I : World → Prop) (o : Oper) (a : Act) (v : Value) : Prop := ∀ w, I w → qUp P w v ((execOp a.eval o).run P w)
def qOneI (P : Program) (I : World → Prop) (o : Oper) (a : Act) (K : Act → Prop) : Prop := ∃ v, qAtI P I o a v ∧ K (a.put o.dst v)
def qOpI (P : Program) (ops : Array Oper) (I : World → Prop) (i : Nat) (K : Act → Prop) (a : Act) : Prop :=
  match ops[i]? with
  | none => K a
  | some o => if Region.wanted o (yielded ops a.tmps) then qOneI P I o a K else K (a.put o.dst undef)
def YI (P : Program) (ops : Array Oper) (I : World → Prop) (o : Oper) (v : Value) (a : Act) : Prop :=
  (Region.wanted o (yielded ops a.tmps) = true ∧ qAtI P I o a v) ∨ (Region.wanted o (yielded ops a.tmps) = false ∧ v = undef)
theorem YI.op {i : Nat} {o : Oper} {v : Value} {a : Act} (hi : ops[i]? = some o) (hy : YI P ops I o v a) {K : Act → Prop} (h : K (a.put o.dst v)) : qOpI P ops I i K a := by
  unfold qOpI
  rw [hi]
  dsimp only
  rcases hy with ⟨h1, h2⟩ | ⟨h1, rfl⟩
  · rw [if_pos h1]; exact ⟨v, h2, h⟩
  · rw [if_neg (by rw [h1]; exact Bool.false_ne_true)]; exact h
theorem YI.same {o : Oper} {v : Value} {a a' : Act} (hy : YI P ops I o v a) (he : execOp a'.eval o = execOp a.eval o) (hw : Region.wanted o (yielded ops a'.tmps) = Region.wanted o (yielded ops a.tmps)) : YI P ops I o v a' := by
  unfold YI qAtI at *
  rw [he, hw]
  exact hy
/-- What a step's result is to give: a value and a world; of a call: what it returns. -/
def stepI (P : Program) (Φ : Value → World → Prop) : Result Next → Prop
  | .ok (.value v) w' => Φ v w'
  | .ok .skip w' => Φ undef w'
  | .ok (.enter f args) w' => Calls P f args w' fun e w'' => ∃ v, e = .returned v ∧ Φ v w''
  | _ => False
/-- An operation that writes: into which class, with which value. -/
def effI (P : Program) (ops : Array Oper) {I : World → Prop} (o : Oper) (a : Act) (C : Cli I) (K : Act → Cli I → Prop) : Prop :=
  Region.wanted o (yielded ops a.tmps) = true ∧ ∃ (ι : Type) (val : ι → Value) (D : ι → Cli I),
    (∀ w, C.C w → stepI P (fun v w' => ∃ i, v = val i ∧ (D i).C w') ((execOp a.eval o).run P w)) ∧ ∀ i, K (a.put o.dst (val i)) (D i)

def wpM (P : Program) (ops : Array Oper) {I : World → Prop} (n : Nat) (L : Array Bool → Act → Cli I → Prop) : Nat → Array Bool → Act → Cli I → Prop
  | 0, d, a, C => L d a C
  | f + 1, d, a, C => Region.ready .any ops d ≠ [] ∧ ∀ i ∈ Region.ready .any ops d, i < n ∧
    (qOpI P ops I i (fun a' => wpM P ops n L f (d.setIfInBounds i true) a' C) a ∨ ∃ o, ops[i]? = some o ∧ effI P ops o a C (fun a' C' => wpM P ops n L f (d.setIfInBounds i true) a' C'))

theorem any_of_M {n g : Nat} {L : Array Bool → Act → Cli I → Prop} {Q : Exit → Act → World → Prop} (hL : ∀ d a C w, C.C w → L d a C → wpAny P .any ops Q g d a w) (f : Nat) :
    ∀ (d : Array Bool) (a : Act) (C : Cli I) (w : World), C.C w → wpM P ops n L f d a C → wpAny P .any ops Q (f + g) d a w := by
  induction f with
  | zero => intro d a C w hw h; rw [Nat.zero_add]; exact hL _ _ _ _ hw h
  | succ f ih =>
    intro d a C w hw h
    rw [Nat.add_right_comm]
    refine ⟨fun e => absurd e h.1, fun i hi => ?_⟩
    rcases (h.2 i hi).2 with h1 | ⟨o, h1, h2, ι, val, D, h3, h4⟩
    · unfold qOpI at h1
      unfold wpOp
      split
      · rename_i h0; rw [h0] at h1; exact ih _ _ _ _ hw h1
      · rename_i o h0
        rw [h0] at h1
        dsimp only at h1
        split
        · rename_i hq
          rw [if_pos hq] at h1
          obtain ⟨v, h2, h3⟩ := h1
          left
          have h4 := h2 w (C.sub w hw)
          unfold Oper.wp
          generalize (execOp a.eval o).run P w = r at *
          cases r with
          | ok x w' =>
            cases x <;> simp only [qUp] at h4 <;> simp only [Oper.upon]
            case value u => obtain ⟨e1, e2⟩ := h4; rw [e1, e2]; exact ih _ _ _ _ hw h3
            case skip => obtain ⟨e1, e2⟩ := h4; rw [e1, ← e2]; exact ih _ _ _ _ hw h3
            case enter g args =>
              obtain ⟨e1, hc⟩ := h4
              rw [e1]
              exact hc.mono fun e w'' ⟨he, hb⟩ => by subst he; exact ih _ _ _ _ (C.cl w w'' hw hb) h3
          | halt x w' => simp only [qUp] at h4
        · rename_i hq
          rw [if_neg hq] at h1
          exact ih _ _ _ _ hw h1
    · unfold wpOp
      rw [h1]
      dsimp only
      rw [if_pos h2]
      left
      have h5 := h3 w hw
      unfold Oper.wp
      generalize (execOp a.eval o).run P w = r at *
      cases r with
      | ok x w' =>
        cases x <;> simp only [stepI] at h5 <;> simp only [Oper.upon]
        case value u => obtain ⟨j, rfl, h6⟩ := h5; exact ih _ _ _ _ h6 (h4 j)
        case skip => obtain ⟨j, h7, h6⟩ := h5; rw [h7]; exact ih _ _ _ _ h6 (h4 j)
        case enter g args => exact h5.mono fun e w'' ⟨u, he, j, hj, h6⟩ => by subst he; subst hj; exact ih _ _ _ _ h6 (h4 j)
      | halt x w' => simp only [stepI] at h5

theorem M_first {n i : Nat} {oi : Oper} {v : Value} {L : Array Bool → Act → Cli I → Prop} (hi : ops[i]? = some oi) (hsel : Region.noSelect ops = true) (hs : Region.sinkB .any ops n = true) (hc : Region.chainB .any ops n = true)
    (hn : n < ops.size) (hin : i < n) (hdone : ∀ d a C, L d a C → ∀ j ∈ Region.ready .any ops d, n ≤ j) (f : Nat) :
    ∀ (d : Array Bool) (a : Act) (C : Cli I), HeadInv .any ops n d → (∀ j oj, ops[j]? = some oj → j ≠ i → d.getD j true = false → (∀ e ∈ oj.after, Region.binds .any e = true → e.on ≠ i) → oi.apart ops oj = true) →
      i ∈ Region.ready .any ops d → YI P ops I oi v a → wpM P ops n L f (d.setIfInBounds i true) (a.put oi.dst v) C → wpM P ops n L (f + 1) d a C := by
  have hsl := Region.noSelect_spec hsel
  induction f with
  | zero =>
    intro d a C inv _ hr hy H
    refine ⟨fun h => List.ne_nil_of_mem hr h, fun j hj => ?_⟩
    have hjn : j < n := Nat.lt_of_not_le fun h => tail_waits hs hc hn inv _ i rfl hin (mem_ready.1 hr).1 j h hj
    refine ⟨hjn, ?_⟩
    by_cases hji : j = i
    · cases hji; exact Or.inl (hy.op hi H)
    · exact absurd (hdone _ _ _ H j (ready_mono hj hji)) (Nat.not_le_of_lt hjn)
  | succ f ih =>
    intro d a C inv hfree hr hy H
    refine ⟨fun h => List.ne_nil_of_mem hr h, fun j hj => ?_⟩
    have hjn : j < n := Nat.lt_of_not_le fun h => tail_waits hs hc hn inv _ i rfl hin (mem_ready.1 hr).1 j h hj
    refine ⟨hjn, ?_⟩
    by_cases hji : j = i
    · cases hji; exact Or.inl (hy.op hi H)
    · obtain ⟨hjun, oj, hoj, hall⟩ := mem_ready.1 hj
      have hnot : ∀ e ∈ oj.after, Region.binds .any e = true → e.on ≠ i := by
        intro e he hb heq
        have h1 := hall e he hb
        rw [heq, getD_both (mem_ready.1 hr).1] at h1
        cases h1
      obtain ⟨p1, p2, p3⟩ := Oper.apart_spec (hfree j oj hoj hji hjun hnot)
      have hfree' : ∀ k ok, ops[k]? = some ok → k ≠ i → (d.setIfInBounds j true).getD k true = false → (∀ e ∈ ok.after, Region.binds .any e = true → e.on ≠ i) → oi.apart ops ok = true := by
        intro k ok hk hki hun hno
        refine hfree k ok hk hki ?_ hno
        by_cases hjk : j = k
        · cases hjk; exact hjun
        · rwa [getD_set_ne true hjk] at hun
      have keep : ∀ u, YI P ops I oi v (a.put oj.dst u) := fun u => hy.same (execOp_put oi (fun cs b => hsl i oi cs b hi) a oj.dst u p3) (wanted_put oi a oj.dst u p3)
      have go : ∀ u (C' : Cli I), wpM P ops n L f ((d.setIfInBounds i true).setIfInBounds j true) ((a.put oi.dst v).put oj.dst u) C' → wpM P ops n L (f + 1) (d.setIfInBounds j true) (a.put oj.dst u) C' := by
        intro u C' hu
        refine ih _ _ _ (inv.set hj hjn) hfree' (ready_mono hr (Ne.symm hji)) (keep u) ?_
        rw [Array.setIfInBounds_comm _ _ hji, ← Act.put_comm a v u p2]
        exact hu
      rcases (H.2 j (ready_mono hj hji)).2 with h1 | ⟨o, ho, h2, ι, val, D, h3, h4⟩
      · left
        unfold qOpI at h1 ⊢
        rw [hoj] at h1 ⊢
        dsimp only at h1 ⊢
        rw [wanted_put oj a oi.dst v p1] at h1
        split
        · rename_i hq
          rw [if_pos hq] at h1
          obtain ⟨u, hu, hn⟩ := h1
          refine ⟨u, ?_, go u C hn⟩
          unfold qAtI at hu ⊢
          rwa [execOp_put oj (fun cs b => hsl j oj cs b hoj) a oi.dst v p1] at hu
        · rename_i hq
          rw [if_neg hq] at h1
          exact go undef C h1
      · right
        obtain rfl : o = oj := Option.some.inj (ho.symm.trans hoj)
        refine ⟨o, hoj, by rw [← wanted_put o a oi.dst v p1]; exact h2, ι, val, D, ?_, fun k => go _ _ (h4 k)⟩
        rwa [execOp_put o (fun cs b => hsl j o cs b hoj) a oi.dst v p1] at h3

/-- The steps, in the order chosen: true: one that writes. -/
def wpMix (P : Program) (ops : Array Oper) {I : World → Prop} (L : Act → Cli I → Prop) : List (Bool × Oper) → Act → Cli I → Prop
  | [], a, C => L a C
  | (false, o) :: r, a, C => if Region.wanted o (yielded ops a.tmps) then qOneI P I o a (fun a' => wpMix P ops L r a' C) else wpMix P ops L r (a.put o.dst undef) C
  | (true, o) :: r, a, C => effI P ops o a C (fun a' C' => wpMix P ops L r a' C')
theorem mix_nil {L : Act → Cli I → Prop} {a : Act} {C : Cli I} (h : L a C) : wpMix P ops L [] a C := h
theorem mix_read {L : Act → Cli I → Prop} {a : Act} {C : Cli I} {o : Oper} {r : List (Bool × Oper)} (h : ∀ K : Act → Prop, (∀ a, wpMix P ops L r a C → K a) → if Region.wanted o (yielded ops a.tmps) then qOneI P I o a K else K (a.put o.dst undef)) :
    wpMix P ops L ((false, o) :: r) a C := h _ (fun _ h => h)
theorem mix_write {L : Act → Cli I → Prop} {a : Act} {C : Cli I} {o : Oper} {r : List (Bool × Oper)} {ι : Type} (val : ι → Value) (D : ι → Cli I) (hw : Region.wanted o (yielded ops a.tmps) = true)
    (h : ∀ w, C.C w → ∃ i w', ((execOp a.eval o).run P w = .ok (.value (val i)) w' ∨ (execOp a.eval o).run P w = .ok .skip w' ∧ val i = undef) ∧ (D i).C w') (hk : ∀ i, wpMix P ops L r (a.put o.dst (val i)) (D i)) : wpMix P ops L ((true, o) :: r) a C :=
  ⟨hw, ι, val, D, fun w hC => by
    obtain ⟨i, w', h1, h2⟩ := h w hC
    rcases h1 with h1 | ⟨h1, h3⟩
    · rw [h1]; exact ⟨i, rfl, h2⟩
    · rw [h1]; exact ⟨i, h3.symm, h2⟩, hk⟩
/-- A call that writes. -/
theorem mix_call {L : Act → Cli I → Prop} {a : Act} {C : Cli I} {o : Oper} {r : List (Bool × Oper)} {ι : Type} (val : ι → Value) (D : ι → Cli I) (f : Nat) (args : Array Value) (hw : Region.wanted o (yielded ops a.tmps) = true) (hrun : ∀ w, (execOp a.eval o).run P w = .ok (.enter f args) w)
    (h : ∀ w, C.C w → Calls P f args w fun e w' => ∃ i, e = .returned (val i) ∧ (D i).C w') (hk : ∀ i, wpMix P ops L r (a.put o.dst (val i)) (D i)) : wpMix P ops L ((true, o) :: r) a C :=
  ⟨hw, ι, val, D, fun w hC => by
    rw [hrun w]
    exact (h w hC).mono fun e w' ⟨i, h1, h2⟩ => ⟨_, h1, i, rfl, h2⟩, hk⟩

def mixB (ops : Array Oper) (n g : Nat) : List (Bool × Nat) → Array Bool → Bool
  | [], d => Region.seqB .any ops g n d
  | (false, j) :: r, d => decide (j < n) && (Region.ready .any ops d).contains j && Region.free .any ops d j && mixB ops n g r (d.setIfInBounds j true)
  | (true, j) :: r, d => decide (j < n) && (Region.ready .any ops d == [j]) && mixB ops n g r (d.setIfInBounds j true)

def stepsOf (ops : Array Oper) (s : List (Bool × Nat)) : List (Bool × Oper) := s.filterMap fun x => (ops[x.2]?).map fun o => (x.1, o)

theorem M_mix {n g : Nat} {L : Act → Cli I → Prop} (hsel : Region.noSelect ops = true) (hs : Region.sinkB .any ops n = true) (hc : Region.chainB .any ops n = true) (hn : n < ops.size) (s : List (Bool × Nat)) :
    ∀ (d : Array Bool) (a : Act) (C : Cli I), HeadInv .any ops n d → mixB ops n g s d = true → wpMix P ops L (stepsOf ops s) a C →
      wpM P ops n (fun d' a' C' => Region.seqB .any ops g n d' = true ∧ L a' C') s.length d a C := by
  induction s with
  | nil => intro d a C _ hB h; exact ⟨hB, h⟩
  | cons x s ih =>
    obtain ⟨b, j⟩ := x
    intro d a C inv hB h
    cases b with
    | false =>
      simp only [mixB, Bool.and_eq_true, decide_eq_true_eq] at hB
      obtain ⟨⟨⟨hjn, hr⟩, hf⟩, hB'⟩ := hB
      have hr' : j ∈ Region.ready .any ops d := by simpa using hr
      obtain ⟨o, h0⟩ : ∃ o, ops[j]? = some o := ⟨_, Array.getElem?_eq_getElem (by omega)⟩
      have hst : stepsOf ops ((false, j) :: s) = (false, o) :: stepsOf ops s := by simp [stepsOf, h0]
      rw [hst] at h
      unfold wpMix at h
      by_cases hw : Region.wanted o (yielded ops a.tmps) = true
      · rw [if_pos hw] at h
        obtain ⟨v, h1, h2⟩ := h
        exact M_first h0 hsel hs hc hn hjn (fun d' a' C' hL => seqB_ready hL.1) s.length d a C inv (Region.free_spec h0 hf) hr' (Or.inl ⟨hw, h1⟩) (ih _ _ _ (inv.set hr' hjn) hB' h2)
      · rw [if_neg hw] at h
        exact M_first h0 hsel hs hc hn hjn (fun d' a' C' hL => seqB_ready hL.1) s.length d a C inv (Region.free_spec h0 hf) hr' (Or.inr ⟨by simpa using hw, rfl⟩) (ih _ _ _ (inv.set hr' hjn) hB' h)
    | true =>
      simp only [mixB, Bool.and_eq_true, decide_eq_true_eq, beq_iff_eq] at hB
      obtain ⟨⟨hjn, hr⟩, hB'⟩ := hB
      obtain ⟨o, h0⟩ : ∃ o, ops[j]? = some o := ⟨_, Array.getElem?_eq_getElem (by omega)⟩
      have hst : stepsOf ops ((true, j) :: s) = (true, o) :: stepsOf ops s := by simp [stepsOf, h0]
      rw [hst] at h
      unfold wpMix at h
      obtain ⟨hw, ι, val, D, h3, h4⟩ := h
      have hr' : j ∈ Region.ready .any ops d := by rw [hr]; simp
      refine ⟨fun e => (by rw [hr] at e; cases e), fun i hi => ?_⟩
      rw [hr] at hi
      obtain rfl : i = j := by simpa using hi
      exact ⟨hjn, Or.inr ⟨o, h0, hw, ι, val, D, h3, fun k => ih _ _ _ (inv.set hr' hjn) hB' (h4 k)⟩⟩

/-- **The region.** n: where the forced tail begins; s: the order chosen of what comes ahead of it. -/
theorem region_mix {id : Nat} {Q : Exit → Act → World → Prop} {a : Act} {w : World} {l : List Oper} (n : Nat) (s : List (Bool × Nat)) (C0 : Cli I) (h0 : C0.C w.drew) (hm : P.follows .mixedOrders = true)
    (hB : (Region.noSelect l.toArray && decide (n < l.length) && Region.sinkB .any l.toArray n && Region.chainB .any l.toArray n && decide (s.length = n) && mixB l.toArray n (l.length - n) s (Array.replicate l.length false)) = true)
    (h : wpMix P l.toArray (fun a' C' => ∀ w', C'.C w' → wpList P l.toArray Q (l.drop n) a' w') (stepsOf l.toArray s) a C0) : (Code.region id l.toArray true).wp P Q a w := by
  simp only [Bool.and_eq_true, decide_eq_true_eq] at hB
  obtain ⟨⟨⟨⟨⟨hsel, hn⟩, hs⟩, hc⟩, hsl⟩, hmix⟩ := hB
  have hn' : n < l.toArray.size := by simpa using hn
  have inv0 : HeadInv .any l.toArray n (Array.replicate l.length false) :=
    ⟨by simp, fun j oj _ hl => (by rw [getD_replicate_false] at hl; cases hl), fun t _ ht => getD_in (by simpa using ht) (getD_replicate_false _ _)⟩
  have H := M_mix (P := P) (g := l.length - n) hsel hs hc hn' s _ a C0 inv0 hmix h
  refine wp_region_any hm ?_
  have hdl : (l.drop n).length = l.length - n := by simp
  have := any_of_M (Q := Q) (g := l.length - n) (fun d a' C' w' hw hL => by
    have := wpAny_of_seq (md := .any) (Q' := Q) (l.drop n) n d a' w' (fun j => by simp [List.getElem?_drop]) (by rw [hdl]; exact hL.1) (hL.2 _ hw)
    rwa [hdl] at this) _ _ _ _ { w with drawn := w.drawn + 1 } h0 H
  rw [hsl, show n + (l.length - n) = l.length by omega] at this
  simpa using this
end
end Go.Proofs.Ytlfljlhppigejab
namespace Go.Proofs.Ytlfljlhppigejab
open Go.RowKit

theorem cellsAll_append (a b : List U) : cellsAll (a ++ b) = cellsAll a ++ cellsAll b := by simp [cellsAll]
/-- The units' row is turned where it lies. -/
theorem GE.turnU {w w8 : World} {B S : Nat} {g : G} {born : List Int} {fv ev bv : Value} (h : GE w B S g born fv ev bv) {us : List U} (k : Kp (fun b => ev.ownBlock = some b) w w8)
    (own : w8.ownsRow B 83 10 ev us.length (cellsAll us)) : GE w8 B S { g with us := us } born fv ev bv := by
  have hS : ev.ownBlock ≠ some S := fun e => h.se S e rfl
  exact ⟨h.blk.kp k hS, h.base, own_kp h.fr k (fun b hb => h.fe b hb), own, own_kp h.bo k (fun b hb e => h.eb b e hb), h.sf, h.se, h.sb, h.fe, h.fb, h.eb⟩
theorem cellsAll_one (us : List U) : ∀ v ∈ cellsAll us, v.oneCell' = true := by
  intro v hv
  obtain ⟨u, -, hu⟩ := List.mem_flatMap.1 hv
  simp only [cellsE, List.mem_cons, List.not_mem_nil, or_false] at hu
  rcases hu with h | h | h | h | h | h | h | h | h | h <;> rw [h] <;> rfl
theorem addr_add (b o j : Nat) : (⟨b, o, none⟩ : Addr).add j = ⟨b, o + j, none⟩ := by
  unfold Addr.add; split <;> simp_all
end Go.Proofs.Ytlfljlhppigejab
namespace Go.Proofs.Ytlfljlhppigejab
open Go.RowKit

/-- A world in which of what was in v but blocks in X have turned. -/
structure Kw (X : Nat → Prop) (v : World) where
  w : World
  kp : Kp X v w
theorem Kw.ne (X : Nat → Prop) (v : World) : Nonempty (Kw X v) := ⟨⟨v, Kp.refl _ _⟩⟩
theorem Kw.cell {X : Nat → Prop} {v : World} (x : Kw X v) (b o : Nat) (h : b < v.heap.size) (hx : ¬ X b) : x.w.cell? ⟨b, o, none⟩ = v.cell? ⟨b, o, none⟩ := World.cell?_of_block (w := v) (x.kp.block b h hx)
theorem Kp.cell {X : Nat → Prop} {v w : World} (k : Kp X v w) (b o : Nat) (h : b < v.heap.size) (hx : ¬ X b) : w.cell? ⟨b, o, none⟩ = v.cell? ⟨b, o, none⟩ := World.cell?_of_block (w := v) (k.block b h hx)
theorem Kp.frozen {X : Nat → Prop} {v w : World} (k : Kp X v w) (b o : Nat) (h : b < v.heap.size) (hx : ¬ X b) : w.frozen? ⟨b, o, none⟩ = v.frozen? ⟨b, o, none⟩ := World.frozen?_of_block (w := v) (k.block b h hx)
theorem Kp.then_ {X : Nat → Prop} {v w w' : World} (k : Kp X v w) (h : Below w.heap.size w w') : Kp X v w' := k.trans (kp_of h X) (fun _ _ x => x)
theorem Kp.andset {X : Nat → Prop} {w w' : World} (k : Kp X w w') (a : Addr) (v : Value) (h : X a.block) : Kp X w (w'.setCell a v) := k.trans (Kp.setCell w' a v) (fun b _ hb => by rw [hb]; exact h)
def InK (X : Nat → Prop) (v : World) : World → Prop := fun w => ∃ x : Kw X v, w = x.w
def kcl (X : Nat → Prop) (v : World) (R : World → Prop) (hcl : ∀ w w', R w → Below w.heap.size w w' → R w') : Cli (InK X v) :=
  ⟨fun w => Kp X v w ∧ R w, fun w h => ⟨⟨w, h.1⟩, rfl⟩, fun w w' h hb => ⟨h.1.then_ hb, hcl w w' h.2 hb⟩⟩
section
variable {P : Program} {ops : Array Oper} {X : Nat → Prop} {v : World}
def qOneK (P : Program) (X : Nat → Prop) (v : World) (o : Oper) (a : Act) (K : Act → Prop) : Prop := ∃ u, (∀ x : Kw X v, qUp P x.w u ((execOp a.eval o).run P x.w)) ∧ K (a.put o.dst u)
theorem mix_readK {L : Act → Cli (InK X v) → Prop} {a : Act} {C : Cli (InK X v)} {o : Oper} {r : List (Bool × Oper)} (h : ∀ K : Act → Prop, (∀ a, wpMix P ops L r a C → K a) → if Region.wanted o (yielded ops a.tmps) then qOneK P X v o a K else K (a.put o.dst undef)) :
    wpMix P ops L ((false, o) :: r) a C := by
  refine mix_read (fun K hK => ?_)
  have := h K hK
  split
  · rename_i hw
    rw [if_pos hw] at this
    obtain ⟨u, h1, h2⟩ := this
    exact ⟨u, fun w ⟨x, hx⟩ => by rw [hx]; exact h1 x, h2⟩
  · rename_i hw
    rw [if_neg hw] at this
    exact this
/-- A new block. -/
theorem mix_new {L : Act → Cli (InK X v) → Prop} {a : Act} {R : World → Prop} {hcl : ∀ w w', R w → Below w.heap.size w w' → R w'} {o : Oper} {r : List (Bool × Oper)} (val : Nat → Value) (z : Array Value) (T : TypeId) (hw : Region.wanted o (yielded ops a.tmps) = true)
    (hrun : ∀ w, (execOp a.eval o).run P w = .ok (.value (val w.heap.size)) (w.alloc (.cells z T))) (hk : ∀ p, wpMix P ops L r (a.put o.dst (val p)) (kcl X v (fun w => R w ∧ v.heap.size ≤ p ∧ (Blk w p z ∧ ∃ o, w.heap[p]? = some (.cells z T o))) (fun w w' h hb => ⟨hcl w w' h.1 hb, h.2.1, h.2.2.1.call hb, by rw [hb.block p h.2.2.1.lt]; exact h.2.2.2⟩))) :
    wpMix P ops L ((true, o) :: r) a (kcl X v R hcl) := by
  refine mix_write val _ hw (fun w h => ⟨w.heap.size, _, Or.inl (hrun w), ?_⟩) hk
  have hb : Below w.heap.size w (w.alloc (.cells z T)) := (Below.refl _ _).alloc (Nat.le_refl _) _
  exact ⟨h.1.then_ hb, hcl _ _ h.2 hb, h.1.size, Blk.new w z T, _, heap_alloc_new w _⟩
/-- append, onto a row that is owned; the block of the new cells is p. -/
theorem mix_append {L : Act → Cli (InK X v) → Prop} {a : Act} {R : World → Prop} {hcl : ∀ w w', R w → Below w.heap.size w w' → R w'} {o : Oper} {r : List (Bool × Oper)} (p : Nat) (z : Array Value) (T : TypeId) (s y : Operand) (t : TypeId)
    (ho : o.op = .call { callee := .builtin .append, args := #[s, y], argTypes := #[t, t] }) (hg : o.guard = none) (base : Nat) (e : TypeId) (i : TypeInfo) (zv : Value) (size bytes : Nat) (ht : P.underlying t = some (.slice e)) (hi : P.info? e = some i) (hz : i.zero = some zv)
    (hsize : i.size = size) (hby : i.bytes = bytes) (hzs : zv.cells.size = size) (hsz : 0 < size) (u : Value) (n : Nat) (xs : List Value) (hs : a.eval s = u) (hx : a.eval y = .slice (some ⟨p, 0, none⟩) 1 1) (_hown : v.ownsRow base e size u n xs)
    (hzl : z.size = size) (h1 : ∀ q ∈ z.toList, q.oneCell' = true) (h63 : n + 1 ≤ maxLen) (hbytes : (n + 1) * bytes ≤ 140737488355328) (hbase : base ≤ v.heap.size) (hX : ∀ k, X k ↔ u.ownBlock = some k)
    (hR : ∀ w, R w → v.heap.size ≤ p ∧ ∃ o, w.heap[p]? = some (.cells z T o))
    (hfirst : ∀ w, Kp X v w → R w → w.ownsRow base e size u n xs)
    (hk : ∀ g cap, wpMix P ops L r (a.put o.dst (.slice (some ⟨g, 0, none⟩) (n + 1) cap)) (kcl X v (fun w => w.ownsRow base e size (.slice (some ⟨g, 0, none⟩) (n + 1) cap) (n + 1) (xs ++ z.toList) ∧ (u.ownBlock = some g ∨ v.heap.size ≤ g))
      (fun _ _ h hb => ⟨own_kp h.1 (kp_of hb (fun _ => False)) (fun _ _ x => x), h.2⟩))) :
    wpMix P ops L ((true, o) :: r) a (kcl X v R hcl) := by
  refine mix_write (ι := Nat × Nat) (fun q => .slice (some ⟨q.1, 0, none⟩) (n + 1) q.2) _ (by simp [Region.wanted, hg]) (fun w h => ?_) (fun q => hk q.1 q.2)
  obtain ⟨hp, fr, hpb⟩ := hR w h.2
  have hownw := hfirst w h.1 h.2
  obtain ⟨g, cap, w', hr, h2, h3, h4, h5⟩ := run_append_lies (P := P) w t o.type base e i zv size bytes ht hi hz hsize hby hzs hsz u n xs hownw ⟨p, 0, none⟩ 1 1 z.toList (by simp [hzl]) (World.news_of_block hpb) h1 (by omega) h63 hbytes (Nat.le_trans hbase h.1.size) w.heap.size rfl
  refine ⟨(g, cap), w', Or.inl ?_, ?_, h2, ?_⟩
  · unfold execOp
    simp only [ho, resolve, invoke, builtin, Sem.run_bind, Sem.run_pure, Result.andThen_ok, List.map_toArray, List.map_cons, List.map_nil, hs, hx, hr]
  · exact h.1.trans (Kp.grown h3) (fun k _ hk => (hX k).2 hk.symm)
  · rcases h4 with h4 | h4
    · exact Or.inl h4
    · exact Or.inr (by rw [h4]; exact h.1.size)
end
end Go.Proofs.Ytlfljlhppigejab
namespace Go.Proofs.Ytlfljlhppigejab
open Go.RowKit

section
variable {P : Program} {ops : Array Oper} {X : Nat → Prop} {v : World}
end
end Go.Proofs.Ytlfljlhppigejab
namespace Go.Proofs.Ytlfljlhppigejab
open Go.RowKit
section
variable {P : Program} {ops : Array Oper} {X : Nat → Prop} {v : World}
theorem kp_setCells (p : Nat) (l : List Value) : ∀ (o : Nat) (w : World), Kp (fun b => b = p) w (w.setCells p o l) := by
  induction l with
  | nil => intro o w; exact Kp.refl _ _
  | cons v l ih => intro o w; exact (Kp.setCell w ⟨p, o, none⟩ v).trans (ih (o + 1) _) (fun _ _ h => h)
end
end Go.Proofs.Ytlfljlhppigejab
namespace Go.Proofs.Ytlfljlhppigejab
open Go.RowKit

inductive Plan where
  | done
  | read (j : Nat) (p : Plan)
  | write (j : Nat) (p : Plan)
  | fork (i : Nat) (p : Plan) (j : Nat) (q : Plan)
def Plan.len : Plan → Nat
  | .done => 0
  | .read _ p => p.len + 1
  | .write _ p => p.len + 1
  | .fork _ p _ _ => p.len + 1
def planB (ops : Array Oper) (n g : Nat) : Plan → Array Bool → Bool
  | .done, d => Region.seqB .any ops g n d
  | .read j p, d => decide (j < n) && (Region.ready .any ops d).contains j && Region.free .any ops d j && planB ops n g p (d.setIfInBounds j true)
  | .write j p, d => decide (j < n) && (Region.ready .any ops d == [j]) && planB ops n g p (d.setIfInBounds j true)
  | .fork i p j q, d => decide (i < n) && decide (j < n) && (Region.ready .any ops d == [i, j]) && decide (p.len = q.len) && planB ops n g p (d.setIfInBounds i true) && planB ops n g q (d.setIfInBounds j true)

section
variable {P : Program} {ops : Array Oper} {I : World → Prop}
/-- One step of the plan. -/
def stepP (P : Program) (ops : Array Oper) {I : World → Prop} (b : Bool) (j : Nat) (L : Act → Cli I → Prop) (a : Act) (C : Cli I) : Prop :=
  match ops[j]? with
  | some o => wpMix P ops L [(b, o)] a C
  | none => False
def wpPlan (P : Program) (ops : Array Oper) {I : World → Prop} (L : Act → Cli I → Prop) : Plan → Act → Cli I → Prop
  | .done, a, C => L a C
  | .read j p, a, C => stepP P ops false j (wpPlan P ops L p) a C
  | .write j p, a, C => stepP P ops true j (wpPlan P ops L p) a C
  | .fork i p j q, a, C => stepP P ops true i (wpPlan P ops L p) a C ∧ stepP P ops true j (wpPlan P ops L q) a C

theorem M_plan {n g : Nat} {L : Act → Cli I → Prop} (hsel : Region.noSelect ops = true) (hs : Region.sinkB .any ops n = true) (hc : Region.chainB .any ops n = true) (hn : n < ops.size) (s : Plan) :
    ∀ (d : Array Bool) (a : Act) (C : Cli I), HeadInv .any ops n d → planB ops n g s d = true → wpPlan P ops L s a C →
      wpM P ops n (fun d' a' C' => Region.seqB .any ops g n d' = true ∧ L a' C') s.len d a C := by
  induction s with
  | done => intro d a C _ hB h; exact ⟨hB, h⟩
  | read j s ih =>
    intro d a C inv hB h
    simp only [planB, Bool.and_eq_true, decide_eq_true_eq] at hB
    obtain ⟨⟨⟨hjn, hr⟩, hf⟩, hB'⟩ := hB
    have hr' : j ∈ Region.ready .any ops d := by simpa using hr
    obtain ⟨o, h0⟩ : ∃ o, ops[j]? = some o := ⟨_, Array.getElem?_eq_getElem (by omega)⟩
    unfold wpPlan stepP at h
    rw [h0] at h
    dsimp only at h
    unfold wpMix at h
    by_cases hw : Region.wanted o (yielded ops a.tmps) = true
    · rw [if_pos hw] at h
      obtain ⟨v, h1, h2⟩ := h
      exact M_first h0 hsel hs hc hn hjn (fun d' a' C' hL => seqB_ready hL.1) s.len d a C inv (Region.free_spec h0 hf) hr' (Or.inl ⟨hw, h1⟩) (ih _ _ _ (inv.set hr' hjn) hB' h2)
    · rw [if_neg hw] at h
      exact M_first h0 hsel hs hc hn hjn (fun d' a' C' hL => seqB_ready hL.1) s.len d a C inv (Region.free_spec h0 hf) hr' (Or.inr ⟨by simpa using hw, rfl⟩) (ih _ _ _ (inv.set hr' hjn) hB' h)
  | write j s ih =>
    intro d a C inv hB h
    simp only [planB, Bool.and_eq_true, decide_eq_true_eq, beq_iff_eq] at hB
    obtain ⟨⟨hjn, hr⟩, hB'⟩ := hB
    obtain ⟨o, h0⟩ : ∃ o, ops[j]? = some o := ⟨_, Array.getElem?_eq_getElem (by omega)⟩
    unfold wpPlan stepP at h
    rw [h0] at h
    dsimp only at h
    unfold wpMix at h
    obtain ⟨hw, ι, val, D, h3, h4⟩ := h
    have hr' : j ∈ Region.ready .any ops d := by rw [hr]; simp
    refine ⟨fun e => (by rw [hr] at e; cases e), fun i hi => ?_⟩
    rw [hr] at hi
    obtain rfl : i = j := by simpa using hi
    exact ⟨hjn, Or.inr ⟨o, h0, hw, ι, val, D, h3, fun k => ih _ _ _ (inv.set hr' hjn) hB' (h4 k)⟩⟩
  | fork i p j q ihp ihq =>
    intro d a C inv hB h
    simp only [planB, Bool.and_eq_true, decide_eq_true_eq, beq_iff_eq] at hB
    obtain ⟨⟨⟨⟨⟨hin, hjn⟩, hr⟩, hlen⟩, hBp⟩, hBq⟩ := hB
    obtain ⟨oi, hi0⟩ : ∃ o, ops[i]? = some o := ⟨_, Array.getElem?_eq_getElem (by omega)⟩
    obtain ⟨oj, hj0⟩ : ∃ o, ops[j]? = some o := ⟨_, Array.getElem?_eq_getElem (by omega)⟩
    unfold wpPlan stepP at h
    rw [hi0, hj0] at h
    dsimp only at h
    obtain ⟨h1, h2⟩ := h
    unfold wpMix at h1 h2
    obtain ⟨hw1, ι1, val1, D1, e1, k1⟩ := h1
    obtain ⟨hw2, ι2, val2, D2, e2, k2⟩ := h2
    have hri : i ∈ Region.ready .any ops d := by rw [hr]; simp
    have hrj : j ∈ Region.ready .any ops d := by rw [hr]; simp
    refine ⟨fun e => (by rw [hr] at e; cases e), fun k hk => ?_⟩
    rw [hr] at hk
    have hk2 : k = i ∨ k = j := by simpa using hk
    by_cases hki : k = i
    · subst hki
      exact ⟨hin, Or.inr ⟨oi, hi0, hw1, ι1, val1, D1, e1, fun x => ihp _ _ _ (inv.set hri hin) hBp (k1 x)⟩⟩
    · obtain rfl : k = j := by rcases hk2 with h | h; exact absurd h hki; exact h
      exact ⟨hjn, Or.inr ⟨oj, hj0, hw2, ι2, val2, D2, e2, fun x => (by
        have := ihq _ _ _ (inv.set hrj hjn) hBq (k2 x)
        rw [hlen]
        exact this)⟩⟩

/-- **The region.** n: where the forced tail begins; s: the plan of what comes ahead of it. -/
theorem region_plan {id : Nat} {Q : Exit → Act → World → Prop} {a : Act} {w : World} {l : List Oper} (n : Nat) (s : Plan) (C0 : Cli I) (h0 : C0.C w.drew) (hm : P.follows .mixedOrders = true)
    (hB : (Region.noSelect l.toArray && decide (n < l.length) && Region.sinkB .any l.toArray n && Region.chainB .any l.toArray n && decide (s.len = n) && planB l.toArray n (l.length - n) s (Array.replicate l.length false)) = true)
    (h : wpPlan P l.toArray (fun a' C' => ∀ w', C'.C w' → wpList P l.toArray Q (l.drop n) a' w') s a C0) : (Code.region id l.toArray true).wp P Q a w := by
  simp only [Bool.and_eq_true, decide_eq_true_eq] at hB
  obtain ⟨⟨⟨⟨⟨hsel, hn⟩, hs⟩, hc⟩, hsl⟩, hmix⟩ := hB
  have hn' : n < l.toArray.size := by simpa using hn
  have inv0 : HeadInv .any l.toArray n (Array.replicate l.length false) :=
    ⟨by simp, fun j oj _ hl => (by rw [getD_replicate_false] at hl; cases hl), fun t _ ht => getD_in (by simpa using ht) (getD_replicate_false _ _)⟩
  have H := M_plan (P := P) (g := l.length - n) hsel hs hc hn' s _ a C0 inv0 hmix h
  refine wp_region_any hm ?_
  have hdl : (l.drop n).length = l.length - n := by simp
  have := any_of_M (Q := Q) (g := l.length - n) (fun d a' C' w' hw hL => by
    have := wpAny_of_seq (md := .any) (Q' := Q) (l.drop n) n d a' w' (fun j => by simp [List.getElem?_drop]) (by rw [hdl]; exact hL.1) (hL.2 _ hw)
    rwa [hdl] at this) _ _ _ _ { w with drawn := w.drawn + 1 } h0 H
  rw [hsl, show n + (l.length - n) = l.length by omega] at this
  simpa using this
end
theorem plan_read {I : World → Prop} {P : Program} {l : List Oper} {L : Act → Cli I → Prop} {a : Act} {C : Cli I} {j : Nat} {p : Plan} {o : Oper} (h0 : l[j]? = some o) (h : wpMix P l.toArray (wpPlan P l.toArray L p) [(false, o)] a C) : wpPlan P l.toArray L (.read j p) a C := by
  unfold wpPlan stepP
  rw [List.getElem?_toArray, h0]
  exact h
theorem plan_done {I : World → Prop} {P : Program} {ops : Array Oper} {L : Act → Cli I → Prop} {a : Act} {C : Cli I} (h : L a C) : wpPlan P ops L .done a C := h
theorem plan_write {I : World → Prop} {P : Program} {l : List Oper} {L : Act → Cli I → Prop} {a : Act} {C : Cli I} {j : Nat} {p : Plan} {o : Oper} (h0 : l[j]? = some o) (h : wpMix P l.toArray (wpPlan P l.toArray L p) [(true, o)] a C) : wpPlan P l.toArray L (.write j p) a C := by
  unfold wpPlan stepP
  rw [List.getElem?_toArray, h0]
  exact h
theorem plan_fork {I : World → Prop} {P : Program} {l : List Oper} {L : Act → Cli I → Prop} {a : Act} {C : Cli I} {i j : Nat} {p q : Plan} (h1 : wpPlan P l.toArray L (.write i p) a C) (h2 : wpPlan P l.toArray L (.write j q) a C) : wpPlan P l.toArray L (.fork i p j q) a C := by
  unfold wpPlan at h1 h2 ⊢
  exact ⟨h1, h2⟩
/-- A new block; what is known then, in a form given. -/
theorem mix_slice {P : Program} {ops : Array Oper} {X : Nat → Prop} {v : World} {L : Act → Cli (InK X v) → Prop} {a : Act} {R : World → Prop} {hcl : ∀ w w', R w → Below w.heap.size w w' → R w'} {o : Oper} {r : List (Bool × Oper)} (val : Nat → Value) (z : Array Value) (T : TypeId) (hw : Region.wanted o (yielded ops a.tmps) = true)
    (hrun : ∀ w, (execOp a.eval o).run P w = .ok (.value (val w.heap.size)) (w.alloc (.cells z T))) (R' : Nat → World → Prop) (hcl' : ∀ p w w', R' p w → Below w.heap.size w w' → R' p w') (hR : ∀ w p, R w → v.heap.size ≤ p → Blk w p z → R' p w)
    (hk : ∀ p, wpMix P ops L r (a.put o.dst (val p)) (kcl X v (R' p) (hcl' p))) :
    wpMix P ops L ((true, o) :: r) a (kcl X v R hcl) := by
  refine mix_write val _ hw (fun w h => ⟨w.heap.size, _, Or.inl (hrun w), ?_⟩) hk
  have hb : Below w.heap.size w (w.alloc (.cells z T)) := (Below.refl _ _).alloc (Nat.le_refl _) _
  exact ⟨h.1.then_ hb, hR _ _ (hcl _ _ h.2 hb) h.1.size (Blk.new w z T)⟩
/-- append of one more, onto a row that was made in the region (or may turn). -/
theorem mix_grow {P : Program} {ops : Array Oper} {X : Nat → Prop} {v : World} {L : Act → Cli (InK X v) → Prop} {a : Act} {R : World → Prop} {hcl : ∀ w w', R w → Below w.heap.size w w' → R w'} {o : Oper} {r : List (Bool × Oper)} (p : Nat) (z : Array Value) (s y : Operand) (t : TypeId)
    (ho : o.op = .call { callee := .builtin .append, args := #[s, y], argTypes := #[t, t] }) (hg : o.guard = none) (e : TypeId) (i : TypeInfo) (zv : Value) (size bytes : Nat) (ht : P.underlying t = some (.slice e)) (hi : P.info? e = some i) (hz : i.zero = some zv)
    (hsize : i.size = size) (hby : i.bytes = bytes) (hzs : zv.cells.size = size) (hsz : 0 < size) (u : Value) (n : Nat) (xs : List Value) (hs : a.eval s = u) (hx : a.eval y = .slice (some ⟨p, 0, none⟩) 1 1)
    (hzl : z.size = size) (h1 : ∀ q ∈ z.toList, q.oneCell' = true) (h63 : n + 1 ≤ maxLen) (hbytes : (n + 1) * bytes ≤ 140737488355328)
    (hR : ∀ w, R w → w.ownsRow v.heap.size e size u n xs ∧ Blk w p z)
    (hk : ∀ g cap, n + 1 ≤ cap → wpMix P ops L r (a.put o.dst (.slice (some ⟨g, 0, none⟩) (n + 1) cap)) (kcl X v (fun w => w.ownsRow v.heap.size e size (.slice (some ⟨g, 0, none⟩) (n + 1) cap) (n + 1) (xs ++ z.toList))
      (fun _ _ h hb => own_kp h (kp_of hb (fun _ => False)) (fun _ _ x => x)))) :
    wpMix P ops L ((true, o) :: r) a (kcl X v R hcl) := by
  refine mix_write (ι := {q : Nat × Nat // n + 1 ≤ q.2}) (fun q => .slice (some ⟨q.1.1, 0, none⟩) (n + 1) q.1.2) _ (by simp [Region.wanted, hg]) (fun w h => ?_) (fun q => hk q.1.1 q.1.2 q.2)
  obtain ⟨hown, hb⟩ := hR w h.2
  obtain ⟨g, cap, w', hr, h2, h3, h4, h5⟩ := run_append_lies (P := P) w t o.type v.heap.size e i zv size bytes ht hi hz hsize hby hzs hsz u n xs hown ⟨p, 0, none⟩ 1 1 z.toList (by simp [hzl]) (fun j q hj => by
    rw [addr_add, Nat.zero_add, hb.cell]
    simpa using hj) h1 (by omega) h63 hbytes h.1.size w.heap.size rfl
  have hcap : n + 1 ≤ cap := by
    rcases h2.2 with ⟨c1, c2⟩ | ⟨g', cap', cur, c1, -, -, c4, c5, -⟩
    · cases c1
    · cases c1
      exact c4
  refine ⟨⟨(g, cap), hcap⟩, w', Or.inl ?_, ?_, h2⟩
  · unfold execOp
    simp only [ho, resolve, invoke, builtin, Sem.run_bind, Sem.run_pure, Result.andThen_ok, List.map_toArray, List.map_cons, List.map_nil, hs, hx, hr]
  · refine ⟨h3.os.trans h.1.os, h3.tape.trans h.1.tape, h3.output.trans h.1.output, Nat.le_trans h.1.size h3.size, fun k hk hX => ?_⟩
    rw [h3.block k (Nat.lt_of_lt_of_le hk h.1.size) (fun e => by
      have := (World.ownsRow.lt hown k e.symm).1
      omega)]
    exact h.1.block k hk hX
end Go.Proofs.Ytlfljlhppigejab
