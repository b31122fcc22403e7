/-
  The walk of elder.build.
-/
import Derived.Test.YtlfljlhppigejaaElderGame
import Derived.Test.YtlfljlhppigejaaPackMix
import Derived.Test.YtlfljlhppigejaaPackPure
import Derived.Deep.RegionHeld3
import Derived.Deep.AppendLies
import Derived.Deep.RegionLaw
import Derived.BigRegion
import Derived.RegionTactic
namespace Go.Proofs.Ytlfljlhppigejaa
open Go.RowKit
attribute [local go_sem] qOne qAt qUp qOneK

theorem infoInt : (Try.prog.info? 3).map (fun i => (i.zero, i.size, i.bytes)) = some (some (.int .i64 0), 1, 8) := by kernel_rfl
/-- The game's blocks lie in X. -/
structure InX (X : Nat → Prop) (S : Nat) (fv ev bv : Value) : Prop where
  s : X S
  f : ∀ b, fv.ownBlock = some b → X b
  e : ∀ b, ev.ownBlock = some b → X b
  b : ∀ b, bv.ownBlock = some b → X b
end Go.Proofs.Ytlfljlhppigejaa
