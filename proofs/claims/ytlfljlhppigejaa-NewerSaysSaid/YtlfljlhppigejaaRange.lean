/-
  Ranges over maps whose keys are integers, by what is still to come.
-/
import Derived.Test.YtlfljlhppigejaaPackMaps
import Derived.Test.YtlfljlhppigejaaElderGame
import Derived.Maps.RangeWalk
namespace Go.Proofs.Ytlfljlhppigejaa
open Go.RowKit

def okI (a : Int) : Prop := (Lit.int .i64 a).wf = true
/-- A range over the map in block b by the iterator in block r: the map holds f; lf: which are still to come; cnt: how many. -/
def RgOf (P : Program) (k : TypeId) (w : World) (b r n : Nat) (f : Int → Option Value) (lf : Int → Bool) (cnt : Nat) : Prop :=
  ∃ D left, w.ranges P k RV b r n D left cnt ∧ (∀ i kl, okI i → keyOf P k (.int .i64 i) = some kl → Maps.has D kl = (f i).isSome ∧ ∀ z, D.atKey kl (.held z) = .held ((f i).getD z)) ∧
    ∀ i kl, okI i → keyOf P k (.int .i64 i) = some kl → left kl = lf i

section
variable {P : Program} {k t e : TypeId} {w : World} {b r n sz cnt : Nat} {f : Int → Option Value} {lf : Int → Bool}
theorem RgOf.start (h : MapOf P k (Value.int .i64) okI w b n sz f) (hk : P.underlying k = some (.int .i64)) (ht : P.underlying t = some (.map k e)) :
    ∃ w', (Instr.range t (.map (some b))).run P w = .ok (.pointer (some ⟨w.heap.size, 0, none⟩)) w' ∧ RgOf P k w' b w.heap.size n f (fun i => (f i).isSome) sz ∧ w.grownBy w' none ∧ w'.heap.size = w.heap.size + 1 := by
  obtain ⟨D, h1, h2, h3⟩ := h
  obtain ⟨w', hr, h4, h5, h6⟩ := h1.range (Maps.int_keyed hk) ht
  rw [h2] at h4
  exact ⟨w', hr, ⟨D, _, h4, h3, fun i kl hi hkl => (h3 i kl hi hkl).1⟩, h5, h6⟩
theorem RgOf.next (h : RgOf P k w b r n f lf cnt) (hk : P.underlying k = some (.int .i64)) (ty : TypeId) :
    (cnt = 0 ∧ (∀ i, okI i → lf i = false) ∧ (Instr.next (.pointer (some ⟨r, 0, none⟩)) false ty).run P w = .ok (.tuple #[.bool false]) w) ∨
    ∃ i v w' cnt', okI i ∧ lf i = true ∧ f i = some v ∧ (Instr.next (.pointer (some ⟨r, 0, none⟩)) false ty).run P w = .ok (.tuple #[.bool true, .int .i64 i, v]) w' ∧
      RgOf P k w' b r n f (fun j => lf j && !decide (j = i)) cnt' ∧ cnt' < cnt ∧ w.grownBy w' (some r) ∧ w'.heap.size = w.heap.size ∧ (Instr.entry (.pointer (some ⟨r, 0, none⟩))).run P w' = .ok (.tuple #[.int .i64 i, v]) w' := by
  obtain ⟨D, left, h1, h2, h3⟩ := h
  rcases h1.next (Maps.int_keyed hk) ty with ⟨h0, hl, hrun⟩ | ⟨key, v, kl, y, w', cnt', hkey, hlk, hv, hat, hrun, hrg, hlt, hgr, hsz, hen⟩
  · exact Or.inl ⟨h0, fun i hi => by
      obtain ⟨kl, hkl⟩ := (intKeys hk).lit i hi
      rw [← h3 i kl hi hkl]
      exact hl kl, hrun⟩
  · obtain ⟨i, rfl, rfl, hi⟩ := Maps.keyOf_int_inv hk hkey
    have hfi : ∀ z, (f i).getD z = v := fun z => by
      have e1 := (h2 i _ hi hkey).2 z
      have e2 := hat (.held z)
      rw [e1] at e2
      simp only [RV, Option.some.injEq] at hv
      rw [← hv] at e2
      simpa using e2
    have hsome : f i = some v := by
      cases hf : f i with
      | some u =>
        have := hfi undef
        rw [hf] at this
        simpa using this
      | none =>
        have e1 := hfi (.bool true)
        have e2 := hfi (.bool false)
        rw [hf] at e1 e2
        simp only [Option.getD_none] at e1 e2
        rw [← e1] at e2
        cases e2
    refine Or.inr ⟨i, v, w', cnt', hi, by rw [← h3 i _ hi hkey]; exact hlk, hsome, hrun, ⟨D, _, hrg, h2, fun j kj hj hkj => ?_⟩, hlt, hgr, hsz, hen⟩
    rw [h3 j kj hj hkj]
    have hjk : kj = .int .i64 j := Option.some.inj (hkj.symm.trans (Maps.keyOf_int_mk hk hj))
    subst hjk
    by_cases e : j = i
    · subst e
      simp [Lit.sameKey]
    · have : (Lit.int .i64 j).sameKey (.int .i64 i) = false := Maps.sameKey_ne (fun h => e (by cases h; rfl))
      rw [this]
      simp [e]
theorem RgOf.left_eq (h : RgOf P k w b r n f lf cnt) : w.rangeLeft b r = cnt := by obtain ⟨D, left, h1, -⟩ := h; exact h1.left_eq
theorem RgOf.ne (h : RgOf P k w b r n f lf cnt) : r ≠ b := by obtain ⟨D, left, h1, -⟩ := h; exact h1.ne
theorem RgOf.lt (h : RgOf P k w b r n f lf cnt) : r < w.heap.size := by obtain ⟨D, left, h1, -⟩ := h; exact h1.lt
theorem RgOf.ltm (h : RgOf P k w b r n f lf cnt) : b < w.heap.size := by obtain ⟨D, left, h1, -⟩ := h; exact h1.owns.lt
theorem RgOf.blk (h : RgOf P k w b r n f lf cnt) {w' : World} (hb : w'.heap[b]? = w.heap[b]?) (hr : w'.heap[r]? = w.heap[r]?) : RgOf P k w' b r n f lf cnt := by
  obtain ⟨D, left, ⟨es, clock, since, seen, c0, h1, F, hs, hD, h2, rest⟩, h3⟩ := h
  exact ⟨D, left, ⟨es, clock, since, seen, c0, hb.trans h1, F, hs, hD, hr.trans h2, rest⟩, h3⟩
theorem RgOf.kp {X : Nat → Prop} {w' : World} (h : RgOf P k w b r n f lf cnt) (hk : Kp X w w') (hb : ¬ X b) (hr : ¬ X r) : RgOf P k w' b r n f lf cnt := h.blk (hk.block b h.ltm hb) (hk.block r h.lt hr)
theorem RgOf.call {w' : World} (h : RgOf P k w b r n f lf cnt) (hb : Below w.heap.size w w') : RgOf P k w' b r n f lf cnt := h.blk (hb.block b h.ltm) (hb.block r h.lt)
/-- The map behind the range (how many it holds is not said anew). -/
theorem RgOf.map (h : RgOf P k w b r n f lf cnt) : ∃ sz, MapOf P k (Value.int .i64) okI w b n sz f := by
  obtain ⟨D, left, h1, h2, -⟩ := h
  exact ⟨_, D, h1.owns, rfl, h2⟩
end

section
variable {P : Program} {w : World} {ops : Array Oper} {rest : List Oper} {o : Oper} {a : Act} {Q : Exit → Act → World → Prop}
/-- 'range m', at the list. -/
theorem list_range (hg : o.guard = none) (m : Operand) (t : TypeId) (hop : o.op = Op.range t m) (k e : TypeId) (hk : P.underlying k = some (.int .i64)) (ht : P.underlying t = some (.map k e)) (b n sz : Nat) (f : Int → Option Value)
    (hm : a.eval m = .map (some b)) (h : MapOf P k (Value.int .i64) okI w b n sz f)
    (hK : ∀ w', RgOf P k w' b w.heap.size n f (fun i => (f i).isSome) sz → Below w.heap.size w w' → w'.heap.size = w.heap.size + 1 → wpList P ops Q rest (a.put o.dst (.pointer (some ⟨w.heap.size, 0, none⟩))) w') :
    wpList P ops Q (o :: rest) a w := by
  refine wpList_plain hg fun K' hK' => ?_
  obtain ⟨w', hrun, r1, r2, r3⟩ := RgOf.start h hk ht
  unfold Oper.wp
  simp [execOp, hop, hm, hrun, Result.andThen]
  exact hK' _ _ (hK w' r1 ⟨r2.os, r2.tape, r2.output, r2.size, fun i hi => r2.block i hi (by simp)⟩ r3)
/-- The step, at the list. -/
theorem list_next (hg : o.guard = none) (it : Operand) (hop : o.op = Op.next it false) (k : TypeId) (hk : P.underlying k = some (.int .i64)) (b r n cnt : Nat) (f : Int → Option Value) (lf : Int → Bool)
    (hit : a.eval it = .pointer (some ⟨r, 0, none⟩)) (h : RgOf P k w b r n f lf cnt)
    (hDone : cnt = 0 → (∀ i, okI i → lf i = false) → wpList P ops Q rest (a.put o.dst (.tuple #[.bool false])) w)
    (hMore : ∀ i v w' cnt', okI i → lf i = true → f i = some v → RgOf P k w' b r n f (fun j => lf j && !decide (j = i)) cnt' → cnt' < cnt → Kp (fun x => x = r) w w' → w'.heap.size = w.heap.size →
      (Instr.entry (.pointer (some ⟨r, 0, none⟩))).run P w' = .ok (.tuple #[.int .i64 i, v]) w' → wpList P ops Q rest (a.put o.dst (.tuple #[.bool true, .int .i64 i, v])) w') :
    wpList P ops Q (o :: rest) a w := by
  refine wpList_plain hg fun K' hK' => ?_
  unfold Oper.wp
  rcases h.next hk o.type with ⟨h0, hl, hrun⟩ | ⟨i, v, w', cnt', hi, hli, hf, hrun, hrg, hlt, hgr, hsz, hen⟩
  · simp [execOp, hop, hit, hrun, Result.andThen]
    exact hK' _ _ (hDone h0 hl)
  · simp [execOp, hop, hit, hrun, Result.andThen]
    exact hK' _ _ (hMore i v w' cnt' hi hli hf hrg hlt ⟨hgr.os, hgr.tape, hgr.output, hgr.size, fun x hx hne => hgr.block x hx (fun e => hne (Option.some.inj e))⟩ hsz hen)
end
end Go.Proofs.Ytlfljlhppigejaa
