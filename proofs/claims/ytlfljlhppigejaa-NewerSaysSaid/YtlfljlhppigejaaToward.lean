/-
  The walk of rules.Toward.
-/
import Derived.Test.YtlfljlhppigejaaRulesWalk
namespace Go.Proofs.Ytlfljlhppigejaa
open Go.RowKit

theorem rToward (x y tx ty : Int) (w : World) (hx : -100000 ≤ x ∧ x ≤ 100000) (hy : -100000 ≤ y ∧ y ≤ 100000) (htx : -100000 ≤ tx ∧ tx ≤ 100000) (hty : -100000 ≤ ty ∧ ty ≤ 100000) :
    Calls Try.prog 25 #[.int .i64 x, .int .i64 y, .int .i64 tx, .int .i64 ty] w fun e w' => e = .returned (.tuple #[.int .i64 (near1 x tx), .int .i64 (near1 y ty)]) ∧ w = w' := by
  obtain ⟨_, _⟩ := hx; obtain ⟨_, _⟩ := hy; obtain ⟨_, _⟩ := htx; obtain ⟨_, _⟩ := hty
  rcases Int.lt_trichotomy x tx with h1 | h1 | h1
  all_goals
    rcases Int.lt_trichotomy y ty with h2 | h2 | h2
    all_goals
      (try subst h1)
      (try subst h2)
      go_enter Try.func25, Try.ntmps25
      go_wp2
      all_goals
        go_ret2
        exact ⟨ret2 (intv (by unfold near1; repeat' split
                              all_goals omega)) (intv (by unfold near1; repeat' split
                                                          all_goals omega)), rfl⟩
end Go.Proofs.Ytlfljlhppigejaa
