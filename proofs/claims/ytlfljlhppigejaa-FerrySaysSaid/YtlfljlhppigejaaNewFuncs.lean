/-
  The walks of newer.Check's closures, of the library's ContainsFunc and IndexFunc at them, of newer.task.
-/
import Derived.Test.YtlfljlhppigejaaPackBase
import Derived.Test.YtlfljlhppigejaaPackSmall
import Derived.Test.YtlfljlhppigejaaRulesWalk
import Derived.Deep.Light
import Derived.Deep.DeepCutAuto
namespace Go.Proofs.Ytlfljlhppigejaa
open Go.RowKit

theorem URow.getN {B : Nat} {w : World} {a : Option Addr} {us : List U} (h : URow true B w a us) (i : Nat) (hi : i < us.length) (u : U) (hu : us.getD i zeroU = u) :
    ∃ b o, a = some ⟨b, o, none⟩ ∧ b < B ∧ w.cell? ⟨b, o + i * 11, none⟩ = some (.int .i64 u.id) ∧ w.cell? ⟨b, o + i * 11 + 1, none⟩ = some (.int .i64 u.owner) ∧ w.cell? ⟨b, o + i * 11 + 2, none⟩ = some (.int .i64 u.kind) ∧
      w.cell? ⟨b, o + i * 11 + 3, none⟩ = some (.int .i64 u.x) ∧ w.cell? ⟨b, o + i * 11 + 4, none⟩ = some (.int .i64 u.y) ∧ w.cell? ⟨b, o + i * 11 + 5, none⟩ = some (.int .i64 u.hp) ∧ w.cell? ⟨b, o + i * 11 + 6, none⟩ = some (.int .i64 u.does) ∧
      w.cell? ⟨b, o + i * 11 + 7, none⟩ = some (.int .i64 u.gx) ∧ w.cell? ⟨b, o + i * 11 + 8, none⟩ = some (.int .i64 u.gy) ∧ w.cell? ⟨b, o + i * 11 + 9, none⟩ = some (.int .i64 u.target) ∧ w.cell? ⟨b, o + i * 11 + 10, none⟩ = some (.int .i64 u.since) := by
  obtain ⟨b, o, h1, h2, h3⟩ := h i hi
  rw [hu] at h3
  exact ⟨b, o, h1, h2, h3 0 (by decide), h3 1 (by decide), h3 2 (by decide), h3 3 (by decide), h3 4 (by decide), h3 5 (by decide), h3 6 (by decide), h3 7 (by decide), h3 8 (by decide), h3 9 (by decide), h3 10 (by decide)⟩

end Go.Proofs.Ytlfljlhppigejaa
