/-
  Stores, after which the walk goes on from any world of which so much is known.
-/
import Derived.Test.YtlfljlhppigejabLoose
import Derived.Laws.IdiomCopy
import Derived.Deep.MidRow
namespace Go.Proofs.Ytlfljlhppigejab
open Go.RowKit
section
variable {P : Program} {ops : Array Oper} {Q : Exit → Act → World → Prop}
theorem run_store1 {w : World} {b o : Nat} {ty : TypeId} {v : Value} (hc : (w.cell? ⟨b, o, none⟩).isSome = true) (hf : w.frozen? ⟨b, o, none⟩ = false) (h1 : v.oneCell' = true) (hi : (P.info? ty).map (·.size) = some 1) :
    (Instr.storeAt ty (.pointer (some ⟨b, o, none⟩)) v).run P w = .ok () (w.setCell ⟨b, o, none⟩ v) := by
  have hcl : v.cells = #[v] := by cases v <;> first | rfl | cases h1
  have hst := run_storeCells_cells (P := P) b o [v] 0 w (by intro j hj; obtain rfl : j = 0 := (by simpa using hj); simpa using hc) (by intro j hj; obtain rfl : j = 0 := (by simpa using hj); simpa using hf) (by intro x hx; obtain rfl : x = v := (by simpa using hx); exact h1)
  cases hq : P.info? ty with
  | none => simp [hq] at hi
  | some i =>
    have hs : i.size = 1 := by simpa [hq] using hi
    simp [Instr.storeAt, Instr.sureAddr, storeVar, sizeOf, typeInfo, hq, hs, hcl] at hst ⊢
    exact hst
theorem list_store1 {rest : List Oper} {op : Oper} {a : Act} {w : World} (b o : Nat) (v : Value) (ty : TypeId) (x y : Operand) (ho : op.op = .store ty x y) (hgd : op.guard = none) (hd : op.dst = none)
    (hx : a.eval x = .pointer (some ⟨b, o, none⟩)) (hy : a.eval y = v) (hc : (w.cell? ⟨b, o, none⟩).isSome = true) (hf : w.frozen? ⟨b, o, none⟩ = false) (h1 : v.oneCell' = true) (hi : (P.info? ty).map (·.size) = some 1)
    (R : World → Prop) (hR : R (w.setCell ⟨b, o, none⟩ v)) (h : ∀ W, R W → wpList P ops Q rest a W) : wpList P ops Q (op :: rest) a w :=
  wpList_plain hgd fun _ hK => by
    unfold Oper.wp execOp
    simp only [ho, hx, hy, Sem.run_bind, run_store1 hc hf h1 hi, Result.andThen_ok]
    have := hK _ _ (h _ hR)
    rw [show a = a.put op.dst undef from by rw [hd]; rfl] at this
    exact this
/-- A row in the middle of a block. -/
theorem list_storeM {rest : List Oper} {op : Oper} {a : Act} {w : World} (b o : Nat) (cs : Array Value) (ty : TypeId) (x y : Operand) (ho : op.op = .store ty x y) (hgd : op.guard = none) (hd : op.dst = none)
    (hx : a.eval x = .pointer (some ⟨b, o, none⟩)) (hy : a.eval y = .agg cs) (ht : w.there b o cs.size) (hi : (P.info? ty).map (·.size) = some cs.size) (h1 : cs.all (·.oneCell') = true)
    (R : World → Prop) (hR : R (w.setCells b o cs.toList)) (h : ∀ W, R W → wpList P ops Q rest a W) : wpList P ops Q (op :: rest) a w :=
  wpList_store_mid hgd ty x y ho b o cs hx hy ht hi h1 (by
    have := h _ hR
    rw [show a = a.put op.dst undef from by rw [hd]; rfl] at this
    exact this)
end
end Go.Proofs.Ytlfljlhppigejab
