/-
  The walk of elder.work.
-/
import Derived.Test.YtlfljlhppigejabElderMove
namespace Go.Proofs.Ytlfljlhppigejab
open Go.RowKit
attribute [local go_sem] qOne qAt qUp qOneK

theorem GE.gold {w : World} {B S : Nat} {g : G} {born : List Int} {fv ev bv : Value} (h : GE w B S g born fv ev bv) {o : Int} (ho : o = 0 ∨ o = 1) (c : Int) : GE (w.setCell ⟨S, 1 + o.toNat, none⟩ (.int .i64 c)) B S (if o = 0 then { g with g0 := c } else { g with g1 := c }) born fv ev bv := by
  rcases ho with rfl | rfl
  · exact h.setG0 _
  · exact h.setG1 _
end Go.Proofs.Ytlfljlhppigejab
