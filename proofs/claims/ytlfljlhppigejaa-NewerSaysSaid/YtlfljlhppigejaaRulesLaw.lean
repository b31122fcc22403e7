/-
  The walks of the statements RulesSays and TopRules.
-/
import Derived.Test.YtlfljlhppigejaaToward
namespace Go.Proofs.Ytlfljlhppigejaa
open Go.RowKit

theorem refFar (x y tx ty : Int) (w : World) (hx : -100000 ≤ x ∧ x ≤ 100000) (hy : -100000 ≤ y ∧ y ≤ 100000) (htx : -100000 ≤ tx ∧ tx ≤ 100000) (hty : -100000 ≤ ty ∧ ty ≤ 100000) :
    Calls Try.prog 28 #[.int .i64 x, .int .i64 y, .int .i64 tx, .int .i64 ty] w fun e w' => e = .returned (.int .i64 (far x y tx ty)) ∧ w = w' := by
  obtain ⟨_, _⟩ := hx; obtain ⟨_, _⟩ := hy; obtain ⟨_, _⟩ := htx; obtain ⟨_, _⟩ := hty
  go_enter Try.func28, Try.ntmps28
  go_wp2
  all_goals
    go_ret
    exact ⟨ret1 (intv (by unfold far farI; repeat' split
                          all_goals omega)), rfl⟩

theorem refToward (x y tx ty : Int) (w : World) (hx : -100000 ≤ x ∧ x ≤ 100000) (hy : -100000 ≤ y ∧ y ≤ 100000) (htx : -100000 ≤ tx ∧ tx ≤ 100000) (hty : -100000 ≤ ty ∧ ty ≤ 100000) :
    Calls Try.prog 26 #[.int .i64 x, .int .i64 y, .int .i64 tx, .int .i64 ty] w fun e w' => e = .returned (.tuple #[.int .i64 (near1 x tx), .int .i64 (near1 y ty)]) ∧ w = w' := by
  obtain ⟨_, _⟩ := hx; obtain ⟨_, _⟩ := hy; obtain ⟨_, _⟩ := htx; obtain ⟨_, _⟩ := hty
  go_enter Try.func26, Try.ntmps26
  go_wp2
  all_goals
    go_ret2
    exact ⟨ret2 (intv (by unfold near1; repeat' split
                          all_goals omega)) (intv (by unfold near1; repeat' split
                                                      all_goals omega)), rfl⟩

end Go.Proofs.Ytlfljlhppigejaa
