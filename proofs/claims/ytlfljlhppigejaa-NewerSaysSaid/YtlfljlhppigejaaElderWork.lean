/-
  The walk of elder.work.
-/
import Derived.Test.YtlfljlhppigejaaElderMove
namespace Go.Proofs.Ytlfljlhppigejaa
open Go.RowKit
attribute [local go_sem] qOne qAt qUp qOneK

theorem GE.gold {w : World} {B S : Nat} {g : G} {born : List Int} {fv ev bv : Value} (h : GE w B S g born fv ev bv) {o : Int} (ho : o = 0 ∨ o = 1) (c : Int) : GE (w.setCell ⟨S, 1 + o.toNat, none⟩ (.int .i64 c)) B S (if o = 0 then { g with g0 := c } else { g with g1 := c }) born fv ev bv := by
  rcases ho with rfl | rfl
  · exact h.setG0 _
  · exact h.setG1 _
theorem strike_false {n : Bool} {old : List Int} {us : List U} {u : U} (h : u.target = 0 ∨ old.contains u.id = false ∨ nearF n us u = false) : strikes n old us u = false := by
  unfold strikes
  rcases h with h | h | h <;> rw [h] <;> simp
theorem strike_true {n : Bool} {old : List Int} {us : List U} {u : U} (h1 : u.target ≠ 0) (h2 : old.contains u.id = true) (h3 : nearF n us u = true) : strikes n old us u = true := by
  unfold strikes
  rw [h2, h3]
  simp [h1]
end Go.Proofs.Ytlfljlhppigejaa
